/- ops.made: Sort, Join, Group. ops.joined, whole. ops.Cols, of every code. -/
import Derived.Test.YtpfkjejknlkkoaaGreatDoorOsoM18
import Derived.Test.YtpfkjejknlkkoaaGreatDoorOsoM25
import Derived.Test.YtpfkjejknlkkoaaGreatDoorOsoM17
import Derived.StillTailTactics
import Derived.Deep.CutBlock
import Derived.Test.YtpfkjejknlkkoaaGreatDoorOsoM9
set_option linter.unusedSimpArgs false
set_option linter.unusedVariables false
namespace Go.Proofs.YtpfkjejknlkkoaaGreatDoor
open Go.RowKit Go.BigFrame
attribute [local go_sem] bs_size bs_extract bs_append bs_toList
set_option maxHeartbeats 4000000 in
set_option maxRecDepth 40000 in
theorem made_4 (t : Tb) (cols : List Bs) (Ac : Option Addr) (OA : Option Addr) (no od : Nat) (b o : Nat) (nt ct : Nat) (A B : Option Addr) (c d : Nat) (at_ retry lk ln rk rn : Int) (outs : List Bs) (op lc lw rc rw' : Bs) (Ao : Option Addr) (co : Nat) (Ai : Option Addr) (ni ci : Nat) (cc : Nat) (w : World)
  (hd0 : w.cell? ⟨b, o, none⟩ = some (.slice A t.cols.length c)) (hd1 : w.cell? ⟨b, o + 1, none⟩ = some (.slice B t.rows.length d)) (hT : TabIn w t A B c d) (hnt : 1 ≤ nt) (hAc : Rd w [] 1 Ac cols.length (strs cols)) (hlc : cols.length ≤ 4294967296) (hix : ∀ n ∈ cols, ∃ k, colIx t.cols n = some k) (hrl : ∀ r ∈ t.rows, r.length = t.cols.length) (hn : t.rows.length ≤ 1000000) :
  Calls Tryz.prog 45 #[.agg #[.int .i64 at_, .int .i64 4, .slice Ao outs.length co, .slice Ai ni ci, .slice Ac cols.length cc, .string (bs op), .string (bs lc), .int .i64 lk, .int .i64 ln, .string (bs lw), .string (bs rc), .int .i64 rk, .int .i64 rn, .string (bs rw'), .int .i64 retry], .slice (some ⟨b, o, none⟩) nt ct, .slice OA no od] w fun e w' => MadeOut (.ok [sortK t cols]) e w' ∧ Keeps [] w w' := by
 have hi1 : (0 : Int) < (nt : Int) := by omega
 have hz0 : b < w.heap.size := World.block_lt_of_cell? _ _ hd0
 have HK0 : Hid (Keeps [] w ((w.alloc (.cells #[.int .i64 at_, .int .i64 4, .slice Ao outs.length co, .slice Ai ni ci, .slice Ac cols.length cc, .string (bs op), .string (bs lc), .int .i64 lk, .int .i64 ln, .string (bs lw), .string (bs rc), .int .i64 rk, .int .i64 rn, .string (bs rw'), .int .i64 retry] 36)).alloc (.cells #[.slice A t.cols.length c, .slice B t.rows.length d] 25))) := Lib.hid (((Keeps.refl _ _).alloc _).alloc _)
 have HBX := Lib.hid (Blk.alloc (Blk.new w 36 #[.int .i64 at_, .int .i64 4, .slice Ao outs.length co, .slice Ai ni ci, .slice Ac cols.length cc, .string (bs op), .string (bs lc), .int .i64 lk, .int .i64 ln, .string (bs lw), .string (bs rc), .int .i64 rk, .int .i64 rn, .string (bs rw'), .int .i64 retry]) (.cells #[.slice A t.cols.length c, .slice B t.rows.length d] 25))
 have HBT := Lib.hid (Blk.new (w.alloc (.cells #[.int .i64 at_, .int .i64 4, .slice Ao outs.length co, .slice Ai ni ci, .slice Ac cols.length cc, .string (bs op), .string (bs lc), .int .i64 lk, .int .i64 ln, .string (bs lw), .string (bs rc), .int .i64 rk, .int .i64 rn, .string (bs rw'), .int .i64 retry] 36)) 25 #[.slice A t.cols.length c, .slice B t.rows.length d])
 rw [size_alloc] at HBT
 have HSO : Hid (∀ W, Keeps [] w W → Calls Tryz.prog 67 #[.agg #[.int .i64 at_, .int .i64 4, .slice Ao outs.length co, .slice Ai ni ci, .slice Ac cols.length cc, .string (bs op), .string (bs lc), .int .i64 lk, .int .i64 ln, .string (bs lw), .string (bs rc), .int .i64 rk, .int .i64 rn, .string (bs rw'), .int .i64 retry], .agg #[.slice A t.cols.length c, .slice B t.rows.length d]] W fun e w' => (∃ v, e = .returned v ∧ RowsIs w' v (sortK t cols)) ∧ Keeps [] W w') := Lib.hid fun W q =>
  sorted_any (⟨at_, 4, outs, [], cols, op, ⟨lc, ⟨lk, ln, lw⟩⟩, ⟨rc, ⟨rk, rn, rw'⟩⟩, retry⟩ : Jb) t Ao co Ai ni ci Ac cc A B c d W (hT.quiet q) (hAc.keep q) hlc hix hrl hn outs.length
 generalize sortK t cols = DG at *
 clear hT hAc hix hrl
 go_enter Tryz.func45, Tryz.ntmps45
 go_wp2_with fail
 refine (HSO.out _ HK0.out).mono ?_
 rintro e w5 ⟨⟨v, rfl, hv⟩, hk5⟩
 have HV := Lib.hid hv
 have HK5 := Lib.hid (HK0.out.trans hk5)
 obtain ⟨A3, c3, hv3, _, _⟩ := HV.out
 subst hv3
 clear hv hk5 HBX HBT
 go_wp2
 go_ret2
 exact ⟨⟨_, 1, rfl, Nat.le_refl _, tabs_one HV.out _⟩, HK5.out.alloc _⟩
set_option maxHeartbeats 4000000 in
set_option maxRecDepth 40000 in
theorem made_8 (t : Tb) (n1 n2 : Bs) (k m : Nat) (hk : colIx t.cols n1 = some k) (hm : colIx t.cols n2 = some m) (bc oc : Nat) (OA : Option Addr) (no od : Nat) (b o : Nat) (nt ct : Nat) (A B : Option Addr) (c d : Nat) (at_ retry lk ln rk rn : Int) (outs : List Bs) (op lc lw rc rw' : Bs) (Ao : Option Addr) (co : Nat) (Ai : Option Addr) (ni ci : Nat) (cc : Nat) (w : World)
  (hd0 : w.cell? ⟨b, o, none⟩ = some (.slice A t.cols.length c)) (hd1 : w.cell? ⟨b, o + 1, none⟩ = some (.slice B t.rows.length d)) (hT : TabIn w t A B c d) (hnt : 1 ≤ nt) (hcc : 2 ≤ cc) (s0 : w.cell? ⟨bc, oc, none⟩ = some (.string (bs n1))) (s1 : w.cell? ⟨bc, oc + 1, none⟩ = some (.string (bs n2))) (hrl : ∀ r ∈ t.rows, r.length = t.cols.length) (hnum : ∀ r ∈ t.rows, -1000000000 ≤ (r.getD m zV).num ∧ (r.getD m zV).num ≤ 1000000000) (hn : t.rows.length ≤ 100) :
  Calls Tryz.prog 45 #[.agg #[.int .i64 at_, .int .i64 8, .slice Ao outs.length co, .slice Ai ni ci, .slice (some ⟨bc, oc, none⟩) 2 cc, .string (bs op), .string (bs lc), .int .i64 lk, .int .i64 ln, .string (bs lw), .string (bs rc), .int .i64 rk, .int .i64 rn, .string (bs rw'), .int .i64 retry], .slice (some ⟨b, o, none⟩) nt ct, .slice OA no od] w fun e w' => MadeOut (optE (grpO (groupsJ op k m (sortK t [n1])))) e w' ∧ Keeps [] w w' := by
 have hi1 : (0 : Int) < (nt : Int) := by omega
 have hz0 : b < w.heap.size := World.block_lt_of_cell? _ _ hd0
 have HK0 : Hid (Keeps [] w ((w.alloc (.cells #[.int .i64 at_, .int .i64 8, .slice Ao outs.length co, .slice Ai ni ci, .slice (some ⟨bc, oc, none⟩) 2 cc, .string (bs op), .string (bs lc), .int .i64 lk, .int .i64 ln, .string (bs lw), .string (bs rc), .int .i64 rk, .int .i64 rn, .string (bs rw'), .int .i64 retry] 36)).alloc (.cells #[.slice A t.cols.length c, .slice B t.rows.length d] 25))) := Lib.hid (((Keeps.refl _ _).alloc _).alloc _)
 have HBX := Lib.hid (Blk.alloc (Blk.new w 36 #[.int .i64 at_, .int .i64 8, .slice Ao outs.length co, .slice Ai ni ci, .slice (some ⟨bc, oc, none⟩) 2 cc, .string (bs op), .string (bs lc), .int .i64 lk, .int .i64 ln, .string (bs lw), .string (bs rc), .int .i64 rk, .int .i64 rn, .string (bs rw'), .int .i64 retry]) (.cells #[.slice A t.cols.length c, .slice B t.rows.length d] 25))
 have HBT := Lib.hid (Blk.new (w.alloc (.cells #[.int .i64 at_, .int .i64 8, .slice Ao outs.length co, .slice Ai ni ci, .slice (some ⟨bc, oc, none⟩) 2 cc, .string (bs op), .string (bs lc), .int .i64 lk, .int .i64 ln, .string (bs lw), .string (bs rc), .int .i64 rk, .int .i64 rn, .string (bs rw'), .int .i64 retry] 36)) 25 #[.slice A t.cols.length c, .slice B t.rows.length d])
 rw [size_alloc] at HBT
 have HGR : Hid (∀ W, Keeps [] w W → Calls Tryz.prog 71 #[.agg #[.int .i64 at_, .int .i64 8, .slice Ao outs.length co, .slice Ai ni ci, .slice (some ⟨bc, oc, none⟩) 2 cc, .string (bs op), .string (bs lc), .int .i64 lk, .int .i64 ln, .string (bs lw), .string (bs rc), .int .i64 rk, .int .i64 rn, .string (bs rw'), .int .i64 retry], .agg #[.slice A t.cols.length c, .slice B t.rows.length d]] W fun e w' => ChgOut (grpO (groupsJ op k m (sortK t [n1]))) e w' ∧ Keeps [] W w') := Lib.hid fun W q =>
  groups_any t n1 n2 k m hk hm at_ 8 retry lk ln rk rn outs.length op lc lw rc rw' Ao co Ai ni ci bc oc cc hcc A B c d W (q.cell_of s0 (by simp)) (q.cell_of s1 (by simp)) (hT.quiet q) hrl hnum hn
 generalize grpO (groupsJ op k m (sortK t [n1])) = R at *
 clear hT s0 s1 hrl hnum
 cases R with
 | none =>
  have HC : Hid (∀ W, Keeps [] w W → Calls Tryz.prog 71 #[.agg #[.int .i64 at_, .int .i64 8, .slice Ao outs.length co, .slice Ai ni ci, .slice (some ⟨bc, oc, none⟩) 2 cc, .string (bs op), .string (bs lc), .int .i64 lk, .int .i64 ln, .string (bs lw), .string (bs rc), .int .i64 rk, .int .i64 rn, .string (bs rw'), .int .i64 retry], .agg #[.slice A t.cols.length c, .slice B t.rows.length d]] W fun e w' => e = .returned (.tuple #[.slice none 0 0, .iface 71 (.int .i64 2)]) ∧ Keeps [] W w') := HGR
  clear HGR
  go_enter Tryz.func45, Tryz.ntmps45
  go_wp2_with fail
  refine (HC.out _ HK0.out).mono ?_
  rintro e w5 ⟨rfl, hk5⟩
  go_wp2
  go_ret2
  exact ⟨rfl, HK0.out.trans hk5⟩
 | some l =>
  have HC : Hid (∀ W, Keeps [] w W → Calls Tryz.prog 71 #[.agg #[.int .i64 at_, .int .i64 8, .slice Ao outs.length co, .slice Ai ni ci, .slice (some ⟨bc, oc, none⟩) 2 cc, .string (bs op), .string (bs lc), .int .i64 lk, .int .i64 ln, .string (bs lw), .string (bs rc), .int .i64 rk, .int .i64 rn, .string (bs rw'), .int .i64 retry], .agg #[.slice A t.cols.length c, .slice B t.rows.length d]] W fun e w' => (∃ g, e = .returned (.tuple #[.slice (some ⟨g, 0, none⟩) 1 1, .nilIface]) ∧ RdTabs w' (some ⟨g, 0, none⟩) [l]) ∧ Keeps [] W w') := HGR
  clear HGR
  go_enter Tryz.func45, Tryz.ntmps45
  go_wp2_with fail
  refine (HC.out _ HK0.out).mono ?_
  rintro e w5 ⟨⟨g, rfl, hr⟩, hk5⟩
  go_wp2
  go_ret2
  exact ⟨⟨_, 1, rfl, Nat.le_refl _, hr⟩, HK0.out.trans hk5⟩
set_option maxHeartbeats 4000000 in
set_option maxRecDepth 40000 in
theorem made_7 (t : Tb) (u : Tb) (n1 n2 : Bs) (k m : Nat) (hk : colIx t.cols n1 = some k) (hm : colIx u.cols n2 = some m) (A2 B2 : Option Addr) (c2 d2 : Nat) (bc oc : Nat) (OA : Option Addr) (no od : Nat) (b o : Nat) (nt ct : Nat) (A B : Option Addr) (c d : Nat) (at_ retry lk ln rk rn : Int) (outs : List Bs) (op lc lw rc rw' : Bs) (Ao : Option Addr) (co : Nat) (Ai : Option Addr) (ni ci : Nat) (cc : Nat) (w : World)
  (hd0 : w.cell? ⟨b, o, none⟩ = some (.slice A t.cols.length c)) (hd1 : w.cell? ⟨b, o + 1, none⟩ = some (.slice B t.rows.length d)) (hT : TabIn w t A B c d) (hnt : 2 ≤ nt) (s0 : w.cell? ⟨bc, oc, none⟩ = some (.string (bs n1))) (s1 : w.cell? ⟨bc, oc + 1, none⟩ = some (.string (bs n2))) (hd2 : w.cell? ⟨b, o + 1 * 2, none⟩ = some (.slice A2 u.cols.length c2)) (hd3 : w.cell? ⟨b, o + 1 * 2 + 1, none⟩ = some (.slice B2 u.rows.length d2)) (hU : TabIn w u A2 B2 c2 d2) (hrl : ∀ r ∈ t.rows, r.length = t.cols.length) (hru : ∀ r ∈ u.rows, r.length = u.cols.length) (hlt : t.cols.length ≤ 100) (hlu : u.cols.length ≤ 100) (hn : t.rows.length ≤ 100) (hnu : u.rows.length ≤ 100) :
  Calls Tryz.prog 45 #[.agg #[.int .i64 at_, .int .i64 7, .slice Ao outs.length co, .slice Ai ni ci, .slice (some ⟨bc, oc, none⟩) 2 cc, .string (bs op), .string (bs lc), .int .i64 lk, .int .i64 ln, .string (bs lw), .string (bs rc), .int .i64 rk, .int .i64 rn, .string (bs rw'), .int .i64 retry], .slice (some ⟨b, o, none⟩) nt ct, .slice OA no od] w fun e w' => MadeOut (.ok [pairsJ k m t.rows u.rows]) e w' ∧ Keeps [] w w' := by
 have hi1 : (0 : Int) < (nt : Int) := by omega
 have hi2 : (1 : Int) < (nt : Int) := by omega
 have hz0 : b < w.heap.size := World.block_lt_of_cell? _ _ hd0
 have HK0 : Hid (Keeps [] w ((w.alloc (.cells #[.int .i64 at_, .int .i64 7, .slice Ao outs.length co, .slice Ai ni ci, .slice (some ⟨bc, oc, none⟩) 2 cc, .string (bs op), .string (bs lc), .int .i64 lk, .int .i64 ln, .string (bs lw), .string (bs rc), .int .i64 rk, .int .i64 rn, .string (bs rw'), .int .i64 retry] 36)).alloc (.cells #[.slice A t.cols.length c, .slice B t.rows.length d] 25))) := Lib.hid (((Keeps.refl _ _).alloc _).alloc _)
 have HBX := Lib.hid (Blk.alloc (Blk.new w 36 #[.int .i64 at_, .int .i64 7, .slice Ao outs.length co, .slice Ai ni ci, .slice (some ⟨bc, oc, none⟩) 2 cc, .string (bs op), .string (bs lc), .int .i64 lk, .int .i64 ln, .string (bs lw), .string (bs rc), .int .i64 rk, .int .i64 rn, .string (bs rw'), .int .i64 retry]) (.cells #[.slice A t.cols.length c, .slice B t.rows.length d] 25))
 have HBT := Lib.hid (Blk.new (w.alloc (.cells #[.int .i64 at_, .int .i64 7, .slice Ao outs.length co, .slice Ai ni ci, .slice (some ⟨bc, oc, none⟩) 2 cc, .string (bs op), .string (bs lc), .int .i64 lk, .int .i64 ln, .string (bs lw), .string (bs rc), .int .i64 rk, .int .i64 rn, .string (bs rw'), .int .i64 retry] 36)) 25 #[.slice A t.cols.length c, .slice B t.rows.length d])
 rw [size_alloc] at HBT
 have HPA : Hid (∀ W, Keeps [] w W → Calls Tryz.prog 70 #[.agg #[.int .i64 at_, .int .i64 7, .slice Ao outs.length co, .slice Ai ni ci, .slice (some ⟨bc, oc, none⟩) 2 cc, .string (bs op), .string (bs lc), .int .i64 lk, .int .i64 ln, .string (bs lw), .string (bs rc), .int .i64 rk, .int .i64 rn, .string (bs rw'), .int .i64 retry], .agg #[.slice A t.cols.length c, .slice B t.rows.length d], .agg #[.slice A2 u.cols.length c2, .slice B2 u.rows.length d2]] W fun e w' => (∃ v, e = .returned v ∧ RowsIs w' v (pairsJ k m t.rows u.rows)) ∧ Keeps [] W w') := Lib.hid fun W q =>
  pairs_any t u n1 n2 k m hk hm at_ 7 retry lk ln rk rn outs.length op lc lw rc rw' Ao co Ai ni ci bc oc cc A B c d A2 B2 c2 d2 W (q.cell_of s0 (by simp)) (q.cell_of s1 (by simp)) (hT.quiet q) (hU.quiet q) hrl hru hlt hlu hn hnu
 generalize pairsJ k m t.rows u.rows = DG at *
 clear hT hU s0 s1 hrl hru
 go_enter Tryz.func45, Tryz.ntmps45
 go_upto_region 37 with (fail)
 obtain ⟨w2, hw2⟩ : ∃ w2, ((w.alloc (.cells #[.int .i64 at_, .int .i64 7, .slice Ao outs.length co, .slice Ai ni ci, .slice (some ⟨bc, oc, none⟩) 2 cc, .string (bs op), .string (bs lc), .int .i64 lk, .int .i64 ln, .string (bs lw), .string (bs rc), .int .i64 rk, .int .i64 rn, .string (bs rw'), .int .i64 retry] 36)).alloc (.cells #[.slice A t.cols.length c, .slice B t.rows.length d] 25)) = w2 := ⟨_, rfl⟩
 rw [hw2] at HK0 HBX HBT ⊢
 obtain ⟨bx, hbx⟩ : ∃ bx, w.heap.size = bx := ⟨_, rfl⟩
 rw [hbx] at HBX HBT ⊢
 clear hw2 hbx hd0 hd1
 obtain ⟨x0, x1, x2, x3, x4, x5, x6, x7, x8, x9, x10, x11, x12, x13, x14⟩ := box15 HBX.out
 have hzx : bx < w2.heap.size := HBX.out.lt
 have t0 : w2.cell? ⟨bx + 1, 0, none⟩ = some (.slice A t.cols.length c) := HBT.out.cell 0
 have t1 : w2.cell? ⟨bx + 1, 1, none⟩ = some (.slice B t.rows.length d) := HBT.out.cell 1
 have hzt : bx + 1 < w2.heap.size := HBT.out.lt
 have e2 := HK0.out.cell_of hd2 (by simp)
 have e3 := HK0.out.cell_of hd3 (by simp)
 have hzb : b < w2.heap.size := Nat.lt_of_lt_of_le hz0 HK0.out.size
 clear hd2 hd3
 go_cut [6, 7] (fun v q wx => ∃ g, v = .slice (some ⟨g, 0, none⟩) 1 1 ∧ q = .nilIface ∧ Hid (RdTabs wx (some ⟨g, 0, none⟩) [DG]) ∧ Hid (Keeps [] w wx))
 case first =>
  go_region_law ((go_simp; go_at_call 70; refine (HPA.out _ HK0.out.drew).mono ?_; rintro e w5 ⟨⟨v, rfl, hv⟩, hk5⟩; have HV := Lib.hid hv; obtain ⟨A3, c3, hv3, _, _⟩ := hv; subst hv3))
  all_goals
   go_wp2
   go_meet
   case rel => exact ⟨_, rfl, rfl, Lib.hid (tabs_one HV.out _), Lib.hid ((HK0.out.drew.trans hk5).alloc _)⟩
 case rest =>
  obtain ⟨g, rfl, rfl, HR, HK⟩ := hcut
  go_wp2
  go_ret2
  exact ⟨⟨_, 1, rfl, Nat.le_refl _, HR.out⟩, HK.out⟩
end Go.Proofs.YtpfkjejknlkkoaaGreatDoor
namespace Go.Proofs.YtpfkjejknlkkoaaGreatDoor
open Go.RowKit Go.BigFrame
attribute [local go_sem] bs_size bs_extract bs_append bs_toList
attribute [local go_sem] KW.cell
def jndC (a b : List Cl) (m : Nat) : List Cl := a ++ b.take m ++ b.drop (m + 1)
theorem jndC_len {a b : List Cl} {m : Nat} (h : m < b.length) : (jndC a b m).length = a.length + m + (b.length - (m + 1)) := by
 unfold jndC
 rw [List.length_append, List.length_append, List.length_take, List.length_drop, Nat.min_eq_left (Nat.le_of_lt h)]
theorem dupC_false {out : List Cl} : dupC out = false ↔ ∀ i, (h : i < out.length) → colIx (out.take i) out[i].name = none := by
 unfold dupC
 rw [← Bool.not_eq_true, List.any_eq_true]
 constructor
 ·intro h i hi
  refine Decidable.byContradiction fun hh => h ⟨i, List.mem_range.2 hi, ?_⟩
  rw [List.getD_eq_getElem?_getD, List.getElem?_eq_getElem hi]
  cases hq : colIx (out.take i) out[i].name with
  | none => exact absurd hq hh
  | some k => exact congrArg Option.isSome hq
 ·rintro h ⟨i, hi, hq⟩
  have hi' := List.mem_range.1 hi
  rw [List.getD_eq_getElem?_getD, List.getElem?_eq_getElem hi'] at hq
  have := h i hi'
  rw [show ((some out[i]).getD zC) = out[i] from rfl, this] at hq
  cases hq
theorem dupC_true {out : List Cl} {i : Nat} (h : i < out.length) {k : Nat} (hk : colIx (out.take i) out[i].name = some k) : dupC out = true := by
 cases hd : dupC out with
 | true => rfl
 | false => rw [dupC_false.1 hd i h] at hk; cases hk
theorem cols_oneCell : ∀ (l : List Cl), ∀ x ∈ csCells l, x.oneCell' = true
 | [], x, h => by cases h
 | c :: l, x, h => by
  have e : csCells (c :: l) = [.string (bs c.name), .int .i64 c.kind] ++ csCells l := by simp [csCells, cCells]
  rw [e, List.mem_append] at h
  rcases h with h | h
  ·simp only [List.mem_cons, List.not_mem_nil, or_false] at h
   rcases h with rfl | rfl <;> rfl
  ·exact cols_oneCell l x h
set_option maxRecDepth 100000 in
set_option maxHeartbeats 8000000 in
theorem joined_any (j : Jb) (a b' : List Cl) (Ao : Option Addr) (co : Nat) (Ai : Option Addr) (ni ci : Nat) (Ac : Option Addr) (cc : Nat) (A : Option Addr) (c : Nat) (B : Option Addr) (d : Nat) (w : World) (hJ : JobIn w j Ao co Ac cc) (hA : Rd w [] 2 A a.length (csCells a)) (hl : a.length ≤ 4294967) (hB : Rd w [] 2 B b'.length (csCells b')) (hd : b'.length ≤ d) (hlb : b'.length ≤ 4294967) :
  Calls Tryz.prog 61 #[jAgg j Ao co Ai ni ci Ac cc, .slice A a.length c, .slice B b'.length d] w fun e w' => ColsOut (joinedJ j a b') e w' ∧ Keeps [] w w' := by
 have HF0 := Lib.hid (fun (nm : Bs) W (q : Keeps [] w W) => find_any a nm A c W (hA.keep q) (by omega))
 have HG0 := Lib.hid (fun (nm : Bs) W (q : Keeps [] w W) => find_any b' nm B d W (hB.keep q) (by omega))
 have HA := Lib.hid hA
 have HB := Lib.hid hB
 have HJ := Lib.hid hJ.cols
 obtain ⟨R, hR⟩ : ∃ R, joinedJ j a b' = R := ⟨_, rfl⟩
 rw [hR]
 have HR : Hid (R = if j.cols.length ≠ 2 then .error 1 else match colIx a (j.cols.getD 0 []), colIx b' (j.cols.getD 1 []) with
  | some k, some m => if (a.getD k zC).kind ≠ (b'.getD m zC).kind then .error 13 else if dupC (jndC a b' m) then .error 9 else if 6 < (jndC a b' m).length then .error 4 else .ok [jndC a b' m]
  | _, _ => .error 7) := Lib.hid (by
  rw [← hR]
  unfold joinedJ jndC
  split
  ·rfl
  ·cases colIx a (j.cols.getD 0 []) <;> cases colIx b' (j.cols.getD 1 []) <;> rfl)
 clear hR hJ hA hB
 obtain ⟨at_, code, outs, ins, cols, op, ⟨lc, lk, ln, lw⟩, ⟨rc, rk, rn, rw'⟩, retry⟩ := j
 simp only at HR HJ
 show Calls _ _ #[.agg #[.int .i64 at_, .int .i64 code, .slice Ao outs.length co, .slice Ai ni ci, .slice Ac cols.length cc, .string (bs op), .string (bs lc), .int .i64 lk, .int .i64 ln, .string (bs lw), .string (bs rc), .int .i64 rk, .int .i64 rn, .string (bs rw'), .int .i64 retry], .slice A a.length c, .slice B b'.length d] w _
 by_cases h1 : cols.length = 2
 ·have t0 : ((cols.length : Int) != 2) = false := by rw [h1]; rfl
  obtain ⟨n1, n2, hnm⟩ : ∃ n1 n2, cols = [n1, n2] := by
   match cols, h1 with
   | [n1, n2], _ => exact ⟨n1, n2, rfl⟩
  subst hnm
  obtain ⟨b, o, rfl, _, hb, hcs⟩ := HJ.out.open' (by simp) (by decide)
  have s0 : w.cell? ⟨b, o, none⟩ = some (.string (bs n1)) := hcs 0 _ rfl
  have s1 : w.cell? ⟨b, o + 1, none⟩ = some (.string (bs n2)) := hcs 1 _ rfl
  have HS0 := Lib.hid s0
  have HS1 := Lib.hid s1
  clear hcs h1 HJ s0 s1
  show Calls _ _ #[.agg #[.int .i64 at_, .int .i64 code, .slice Ao outs.length co, .slice Ai ni ci, .slice (some ⟨b, o, none⟩) 2 cc, .string (bs op), .string (bs lc), .int .i64 lk, .int .i64 ln, .string (bs lw), .string (bs rc), .int .i64 rk, .int .i64 rn, .string (bs rw'), .int .i64 retry], .slice A a.length c, .slice B b'.length d] w _
  have HR2 : Hid (R = match colIx a n1, colIx b' n2 with
   | some k, some m => if (a.getD k zC).kind ≠ (b'.getD m zC).kind then .error 13 else if dupC (jndC a b' m) then .error 9 else if 6 < (jndC a b' m).length then .error 4 else .ok [jndC a b' m]
   | _, _ => .error 7) := Lib.hid (HR.out.trans (by
    rw [if_neg (fun h => h rfl)]
    show (match colIx a n1, colIx b' n2 with | some k, some m => _ | _, _ => _) = _
    cases colIx a n1 <;> cases colIx b' n2 <;> rfl))
  clear HR
  obtain ⟨w2, hw2⟩ : ∃ w2, w.alloc (.cells #[.int .i64 at_, .int .i64 code, .slice Ao outs.length co, .slice Ai ni ci, .slice (some ⟨b, o, none⟩) 2 cc, .string (bs op), .string (bs lc), .int .i64 lk, .int .i64 ln, .string (bs lw), .string (bs rc), .int .i64 rk, .int .i64 rn, .string (bs rw'), .int .i64 retry] 36) = w2 := ⟨_, rfl⟩
  have HK0 : Hid (Keeps [] w w2) := Lib.hid (by rw [← hw2]; exact (Keeps.refl _ _).alloc _)
  have HBX : Hid (Blk w2 w.heap.size 36 #[.int .i64 at_, .int .i64 code, .slice Ao outs.length co, .slice Ai ni ci, .slice (some ⟨b, o, none⟩) 2 cc, .string (bs op), .string (bs lc), .int .i64 lk, .int .i64 ln, .string (bs lw), .string (bs rc), .int .i64 rk, .int .i64 rn, .string (bs rw'), .int .i64 retry]) := Lib.hid (by rw [← hw2]; exact Blk.new _ _ _)
  have HW := Lib.hid hw2
  clear hw2
  obtain ⟨k1, hk1⟩ : ∃ k1, colIx a n1 = k1 := ⟨_, rfl⟩
  obtain ⟨k2, hk2⟩ : ∃ k2, colIx b' n2 = k2 := ⟨_, rfl⟩
  have HF1 : Hid (∀ W, Keeps [] w2 W → Calls Tryz.prog 66 #[.slice A a.length c, .string (bs n1)] W fun e W' => e = .returned (.int .i64 (optI k1)) ∧ Keeps [] W W') := Lib.hid fun W q => by
   rw [← hk1]
   exact HF0.out n1 W (HK0.out.trans q)
  have HF2 : Hid (∀ W, Keeps [] w2 W → Calls Tryz.prog 66 #[.slice B b'.length d, .string (bs n2)] W fun e W' => e = .returned (.int .i64 (optI k2)) ∧ Keeps [] W W') := Lib.hid fun W q => by
   rw [← hk2]
   exact HG0.out n2 W (HK0.out.trans q)
  have HX1 : Hid (∀ k, k1 = some k → k < a.length) := Lib.hid fun k h => (List.findIdx?_eq_some_iff_getElem.1 (hk1.trans h)).1
  have HX2 : Hid (∀ k, k2 = some k → k < b'.length) := Lib.hid fun k h => (List.findIdx?_eq_some_iff_getElem.1 (hk2.trans h)).1
  rw [hk1, hk2] at HR2
  clear HF0 HG0 hk1 hk2
  cases k1 with
  | none =>
   have HE : Hid (R = .error 7) := Lib.hid (by rw [HR2.out])
   have HF1' : Hid (∀ W, Keeps [] w2 W → Calls Tryz.prog 66 #[.slice A a.length c, .string (bs n1)] W fun e W' => e = .returned (.int .i64 (-1)) ∧ Keeps [] W W') := HF1
   clear HF1 HR2
   generalize optI k2 = q2 at HF2
   go_enter Tryz.func61, Tryz.ntmps61
   go_upto_region 3 with (fail)
   rw [HW.out]
   have y4 : w2.cell? ⟨w.heap.size, 4, none⟩ = some (.slice (some ⟨b, o, none⟩) 2 cc) := HBX.out.cell 4
   have s0 := HK0.out.cell_of HS0.out (by simp)
   have s1 := HK0.out.cell_of HS1.out (by simp)
   have hz1 : w.heap.size < w2.heap.size := HBX.out.lt
   have hz2 : b < w2.heap.size := World.block_lt_of_cell? _ _ s0
   generalize w.heap.size = bx at *
   refine wp_region_keeps (by kernel_rfl) (by kernel_rfl) ?_
   repeat (go_big_quiet_step (first | with_reducible exact KW.of HF1'.out _ | with_reducible exact KW.of HF2.out _))
   refine wpQuiet_nil ?_
   intro w3 hk3
   have HK3 := Lib.hid (HK0.out.trans hk3)
   clear hk3 y4 s0 s1
   go_wp2
   go_ret2
   exact ⟨by rw [HE.out]; rfl, HK3.out⟩
  | some k =>
   have hx1 := HX1.out k rfl
   have hk0 : ((k : Int) < 0) = False := eq_false (by omega)
   have HF1' : Hid (∀ W, Keeps [] w2 W → Calls Tryz.prog 66 #[.slice A a.length c, .string (bs n1)] W fun e W' => e = .returned (.int .i64 (k : Int)) ∧ Keeps [] W W') := HF1
   clear HF1
   cases k2 with
   | none =>
    have HE : Hid (R = .error 7) := Lib.hid (by rw [HR2.out])
    have HF2' : Hid (∀ W, Keeps [] w2 W → Calls Tryz.prog 66 #[.slice B b'.length d, .string (bs n2)] W fun e W' => e = .returned (.int .i64 (-1)) ∧ Keeps [] W W') := HF2
    clear HF2 HR2
    go_enter Tryz.func61, Tryz.ntmps61
    go_upto_region 3 with (fail)
    rw [HW.out]
    have y4 : w2.cell? ⟨w.heap.size, 4, none⟩ = some (.slice (some ⟨b, o, none⟩) 2 cc) := HBX.out.cell 4
    have s0 := HK0.out.cell_of HS0.out (by simp)
    have s1 := HK0.out.cell_of HS1.out (by simp)
    have hz1 : w.heap.size < w2.heap.size := HBX.out.lt
    have hz2 : b < w2.heap.size := World.block_lt_of_cell? _ _ s0
    generalize w.heap.size = bx at *
    refine wp_region_keeps (by kernel_rfl) (by kernel_rfl) ?_
    repeat (go_big_quiet_step (first | with_reducible exact KW.of HF1'.out _ | with_reducible exact KW.of HF2'.out _))
    refine wpQuiet_nil ?_
    intro w3 hk3
    have HK3 := Lib.hid (HK0.out.trans hk3)
    clear hk3 y4 s0 s1
    go_wp2
    go_ret2
    exact ⟨by rw [HE.out]; rfl, HK3.out⟩
   | some m =>
    have hx2 := HX2.out m rfl
    have hm0 : ((m : Int) < 0) = False := eq_false (by omega)
    have hmi : (m : Int) < (b'.length : Int) := by omega
    have hki : (k : Int) < (a.length : Int) := by omega
    have hm1 : (0 : Int) ≤ (m : Int) := by omega
    have hk1 : (0 : Int) ≤ (k : Int) := by omega
    have HF2' : Hid (∀ W, Keeps [] w2 W → Calls Tryz.prog 66 #[.slice B b'.length d, .string (bs n2)] W fun e W' => e = .returned (.int .i64 (m : Int)) ∧ Keeps [] W W') := HF2
    clear HF2
    have gm : b'.getD m zC = b'[m] := by rw [List.getD_eq_getElem?_getD, List.getElem?_eq_getElem hx2]; rfl
    have gk : a.getD k zC = a[k] := by rw [List.getD_eq_getElem?_getD, List.getElem?_eq_getElem hx1]; rfl
    obtain ⟨b4, o4, rfl, _, hb4, hcs⟩ := HA.out.open' (by omega) (by omega)
    obtain ⟨b5, o5, rfl, _, hb5, hds⟩ := HB.out.open' (by omega) (by omega)
    have c1 := hds (m * 2 + 1) _ (csCells_at b' m hx2).2
    have c3 := hcs (k * 2 + 1) _ (csCells_at a k hx1).2
    rw [← Nat.add_assoc] at c1 c3
    have HR3 : Hid (R = if (a.getD k zC).kind ≠ (b'.getD m zC).kind then .error 13 else if dupC (jndC a b' m) then .error 9 else if 6 < (jndC a b' m).length then .error 4 else .ok [jndC a b' m]) := HR2
    rw [gm, gk] at HR3
    obtain ⟨x, hx⟩ : ∃ x, a[k].kind = x := ⟨_, rfl⟩
    obtain ⟨y, hy⟩ : ∃ y, b'[m].kind = y := ⟨_, rfl⟩
    rw [hx, hy] at HR3
    rw [hy] at c1
    rw [hx] at c3
    have C1 := Lib.hid c1
    have C3 := Lib.hid c3
    clear hcs hds c1 c3 gm gk hx hy HR2
    go_enter Tryz.func61, Tryz.ntmps61
    go_upto_region 3 with (fail)
    rw [HW.out]
    have y4 : w2.cell? ⟨w.heap.size, 4, none⟩ = some (.slice (some ⟨b, o, none⟩) 2 cc) := HBX.out.cell 4
    have s0 := HK0.out.cell_of HS0.out (by simp)
    have s1 := HK0.out.cell_of HS1.out (by simp)
    have hz1 : w.heap.size < w2.heap.size := HBX.out.lt
    have hz2 : b < w2.heap.size := World.block_lt_of_cell? _ _ s0
    generalize w.heap.size = bx at *
    refine wp_region_keeps (by kernel_rfl) (by kernel_rfl) ?_
    repeat (go_big_quiet_step (first | with_reducible exact KW.of HF1'.out _ | with_reducible exact KW.of HF2'.out _))
    refine wpQuiet_nil ?_
    intro w3 hk3
    have HK3 := Lib.hid (HK0.out.trans hk3)
    clear hk3 y4 s0 s1
    have c1 := HK3.out.cell_of C1.out (by simp)
    have c3 := HK3.out.cell_of C3.out (by simp)
    have l5 := World.block_lt_of_cell? _ _ c1
    have l4 := World.block_lt_of_cell? _ _ c3
    go_upto_region 6 with (fail)
    refine wp_region_keeps (by kernel_rfl) (by kernel_rfl) ?_
    repeat (go_big_quiet_step (fail))
    refine wpQuiet_nil ?_
    intro w4 hk4
    have HK4 := Lib.hid (HK3.out.trans hk4)
    clear hk4 c1 c3
    by_cases hxy : x = y
    ·have tk : (x != y) = false := by simp [hxy]
     have HR4 : Hid (R = if dupC (jndC a b' m) then .error 9 else if 6 < (jndC a b' m).length then .error 4 else .ok [jndC a b' m]) := Lib.hid (by rw [HR3.out, if_neg (fun h => h hxy)])
     clear hxy HR3
     go_upto_region 8 with (fail)
     have hsl1 := slice_toC (some ⟨b5, o5, none⟩) b'.length d m (by omega)
     obtain ⟨A5, hsl2, hA5⟩ := slice_fromC b5 o5 b'.length d (m + 1) (by omega) hd
     have hcast : ((m + 1 : Nat) : Int) = (m : Int) + 1 := by omega
     have hwr : IntKind.i64.wrap ((m : Int) + 1) = (m : Int) + 1 := by simp [IntKind.wrap, IntKind.bits, IntKind.signed]; omega
     rw [hcast] at hsl2
     have hS1 := HB.out.keep HK4.out
     have H51 := rdC_take (k := m) hS1 (by omega)
     have H52 := rdC_drop (n := m + 1) hS1 (by omega) (fun h => hA5 (by omega))
     have H51' : Rd w4 [] 2 (some ⟨b5, o5, none⟩) m (csCells (b'.take m)) := by
      have := H51
      rw [List.length_take, Nat.min_eq_left (Nat.le_of_lt hx2)] at this
      exact this
     have HCC : Hid (∀ W g, Keeps [] w4 W → Rd W [] 1 (some ⟨g, 0, none⟩) 3 [.slice (some ⟨b4, o4, none⟩) a.length c, .slice (some ⟨b5, o5, none⟩) m d, .slice A5 (b'.length - (m + 1)) (d - (m + 1))] → Calls Tryz.prog 87 #[.slice (some ⟨g, 0, none⟩) 3 3] W fun e w' => (∃ v, e = .returned v ∧ w'.ownsRow W.heap.size 39 2 v (jndC a b' m).length (csCells (jndC a b' m))) ∧ Keeps [] W w') := Lib.hid fun W g z hr => by
      have h := concatC_any [(a.length, csCells a), (m, csCells (b'.take m)), (b'.length - (m + 1), csCells (b'.drop (m + 1)))] [.slice (some ⟨b4, o4, none⟩) a.length c, .slice (some ⟨b5, o5, none⟩) m d, .slice A5 (b'.length - (m + 1)) (d - (m + 1))] (some ⟨g, 0, none⟩) 3 W rfl hr (fun i hi hi' => by
       match i, hi with
       | 0, _ => exact ⟨_, _, rfl, (HA.out.keep HK4.out).keep z⟩
       | 1, _ => exact ⟨_, _, rfl, H51'.keep z⟩
       | 2, _ => exact ⟨_, _, rfl, H52.keep z⟩) (by simp) (by simp [totN]; omega) (fun p hp x hx => by
       simp only [List.mem_cons, List.not_mem_nil, or_false] at hp
       rcases hp with rfl | rfl | rfl <;> exact cols_oneCell _ x hx)
      have e1 : totN [(a.length, csCells a), (m, csCells (b'.take m)), (b'.length - (m + 1), csCells (b'.drop (m + 1)))] 3 = (jndC a b' m).length := by
       rw [jndC_len hx2]
       simp [totN]
       omega
      have e2 : catV [(a.length, csCells a), (m, csCells (b'.take m)), (b'.length - (m + 1), csCells (b'.drop (m + 1)))] 3 = csCells (jndC a b' m) := by
       unfold jndC csCells
       simp [catV]
      rw [← e1, ← e2]
      exact h
     have hjl := jndC_len (a := a) hx2
     obtain ⟨out, hout⟩ : ∃ out, jndC a b' m = out := ⟨_, rfl⟩
     rw [hout] at HR4 HCC hjl
     have hol : out.length ≤ 8589934 := by omega
     clear hjl hout H51 H51' H52 hS1 hA5 HA HB
     refine wp_region_still_tail 8 (by kernel_rfl) (by kernel_rfl) ?_
     simp only [List.take_succ_cons, List.take_zero, List.drop_succ_cons, List.drop_zero]
     repeat still_step
     refine wpStill_nil ?_
     go_wp2_with fail
     refine (HCC.out _ _ ?_ ?_).mono ?_
     ·first | exact (Keeps.refl _ _).drew.alloc _ | exact ((Keeps.refl _ _).alloc _).drew
     ·first | exact rd_new w4.drew 22 [_, _, _] 3 1 rfl | exact rd_new w4 22 [_, _, _] 3 1 rfl
     rintro e w6 ⟨⟨v, rfl, hown⟩, k6⟩
     have HK6 := Lib.hid ((HK4.out.trans ((Keeps.refl _ _).drew.alloc _)).trans k6)
     obtain ⟨Av, cv, rfl, hcv, hrv⟩ := own_rdj hown
     have HRV := Lib.hid hrv
     clear hown hrv k6 hsl1 hsl2 hcast HCC
     go_wp2_with fail
     go_loopw [63] (fun i wr => ∃ t : Nat, t ≤ out.length ∧ i = .int .i64 t ∧ Hid (∀ q, q < t → (h2 : q < out.length) → colIx (out.take q) out[q].name = none) ∧ Hid (Keeps [] w6 wr)) (fun i _ => out.length - (intOf i).toNat)
     case atStart => exact ⟨0, Nat.zero_le _, rfl, Lib.hid (fun q hq => absurd hq (by omega)), Lib.hid (Keeps.refl _ _)⟩
     case round =>
      obtain ⟨t, ht, rfl, HN, HKT⟩ := hrel
      obtain ⟨wt, rfl⟩ : ∃ z : World, z = wr := ⟨_, rfl⟩
      by_cases htn : t < out.length
      ·have hti : (t : Int) < (out.length : Int) := by omega
       have hR6 := HRV.out.keep HKT.out
       have hR7 := rdC_take (k := t) hR6 (by omega)
       obtain ⟨b6, o6, rfl, _, hb6, hes⟩ := hR6.open' (by omega) (by omega)
       have d0 := hes (t * 2) _ (csCells_at out t htn).1
       have d1 := hes (t * 2 + 1) _ (csCells_at out t htn).2
       rw [← Nat.add_assoc] at d1
       have hlt : (out.take t).length = t := by rw [List.length_take, Nat.min_eq_left ht]
       have HFD : Hid (∀ W, Keeps [] wt W → Calls Tryz.prog 66 #[.slice (some ⟨b6, o6, none⟩) t cv, .string (bs out[t].name)] W fun e W' => e = .returned (.int .i64 (optI (colIx (out.take t) out[t].name))) ∧ Keeps [] W W') := Lib.hid fun W q => by
        have := find_any (out.take t) out[t].name (some ⟨b6, o6, none⟩) cv W (hR7.keep q) (by omega)
        rw [hlt] at this
        exact this
       have HDUP : Hid (∀ k, colIx (out.take t) out[t].name = some k → dupC out = true) := Lib.hid fun k h => dupC_true htn h
       have HNX : Hid (colIx (out.take t) out[t].name = none → ∀ q, q < t + 1 → (h2 : q < out.length) → colIx (out.take q) out[q].name = none) := Lib.hid fun h q hq h2 => by
        by_cases hqt : q < t
        ·exact HN.out q hqt h2
        ·obtain rfl : q = t := by omega
         exact h
       obtain ⟨cx, hcx⟩ : ∃ cx, colIx (out.take t) out[t].name = cx := ⟨_, rfl⟩
       rw [hcx] at HFD HDUP HNX
       obtain ⟨x, hx⟩ : ∃ x, out[t] = x := ⟨_, rfl⟩
       rw [hx] at d0 d1 HFD
       have hslt := slice_toC (some ⟨b6, o6, none⟩) out.length cv t (by omega)
       clear hes hR6 hR7 hx hlt hcx
       go_upto_region 12 with (fail)
       have hbx : Blk (wt.alloc (.cells #[.string (bs x.name), .int .i64 x.kind] 39)) wt.heap.size 39 #[.string (bs x.name), .int .i64 x.kind] := Blk.new _ _ _
       have hkx : Keeps [] wt (wt.alloc (.cells #[.string (bs x.name), .int .i64 x.kind] 39)) := (Keeps.refl _ _).alloc _
       generalize wt.alloc (.cells #[.string (bs x.name), .int .i64 x.kind] 39) = y at hbx hkx ⊢
       generalize wt.heap.size = gx at hbx ⊢
       have x0 : y.cell? ⟨gx, 0, none⟩ = some (.string (bs x.name)) := hbx.cell 0
       have xl := hbx.lt
       have HFD' : Hid (∀ W, Keeps [] y W → Calls Tryz.prog 66 #[.slice (some ⟨b6, o6, none⟩) t cv, .string (bs x.name)] W fun e W' => e = .returned (.int .i64 (optI cx)) ∧ Keeps [] W W') := Lib.hid fun W q => HFD.out W (hkx.trans q)
       have HKX := Lib.hid (HKT.out.trans hkx)
       clear hbx hkx d0 d1
       cases cx with
       | none =>
        have HF3 : Hid (∀ W, Keeps [] y W → Calls Tryz.prog 66 #[.slice (some ⟨b6, o6, none⟩) t cv, .string (bs x.name)] W fun e W' => e = .returned (.int .i64 (-1)) ∧ Keeps [] W W') := HFD'
        have HN3 := Lib.hid (HNX.out rfl)
        clear HFD' HDUP HNX
        refine wp_region_keeps (by kernel_rfl) (by kernel_rfl) ?_
        repeat (go_big_quiet_step (first | with_reducible exact KW.of HF3.out _))
        refine wpQuiet_nil ?_
        intro wz kz
        have HX := Lib.hid (HKX.out.trans kz)
        clear x0 xl kz
        go_wp2
        go_roundw
        case rel => exact ⟨t + 1, by omega, by go_num, HN3, HX⟩
        case measure => simp [intOf]; omega
       | some k =>
        have HF3 : Hid (∀ W, Keeps [] y W → Calls Tryz.prog 66 #[.slice (some ⟨b6, o6, none⟩) t cv, .string (bs x.name)] W fun e W' => e = .returned (.int .i64 (k : Int)) ∧ Keeps [] W W') := HFD'
        have HE : Hid (R = .error 9) := Lib.hid (by rw [HR4.out, if_pos (HDUP.out k rfl)])
        have hkk : (0 : Int) ≤ (k : Int) := by omega
        clear HFD' HDUP HNX
        refine wp_region_keeps (by kernel_rfl) (by kernel_rfl) ?_
        repeat (go_big_quiet_step (first | with_reducible exact KW.of HF3.out _))
        refine wpQuiet_nil ?_
        intro wz kz
        have HX := Lib.hid (HK6.out.trans (HKX.out.trans kz))
        clear x0 xl kz
        go_wp2
        go_ret2
        exact ⟨by rw [HE.out]; rfl, HX.out⟩
      ·have hti : ¬ (t : Int) < (out.length : Int) := by omega
       have hdf : dupC out = false := dupC_false.2 fun q hq => HN.out q (by omega) hq
       have HX := Lib.hid (HK6.out.trans HKT.out)
       have HRT := Lib.hid (HRV.out.keep HKT.out)
       by_cases h6 : 6 < out.length
       ·have HE : Hid (R = .error 4) := Lib.hid (by rw [HR4.out, hdf, if_neg (by simp), if_pos h6])
        have h6i : (6 : Int) < (out.length : Int) := by omega
        clear hdf
        go_wp2
        go_ret2
        exact ⟨by rw [HE.out]; rfl, HX.out⟩
       ·have HE : Hid (R = .ok [out]) := Lib.hid (by rw [HR4.out, hdf, if_neg (by simp), if_neg h6])
        have h6i : ¬ (6 : Int) < (out.length : Int) := by omega
        have HCV := Lib.hid hcv
        clear hdf
        go_wp2
        go_ret2
        exact ⟨by rw [HE.out]; exact ⟨_, _, rfl, Nat.le_refl _, heads_one HRT.out HCV.out _⟩, HX.out.alloc _⟩
    ·have tk : (x != y) = true := by simp [hxy]
     have HE : Hid (R = .error 13) := Lib.hid (by rw [HR3.out, if_pos hxy])
     clear hxy
     go_wp2
     go_ret2
     exact ⟨by rw [HE.out]; rfl, HK4.out⟩
 ·have t0 : ((cols.length : Int) != 2) = true := by simp; omega
  have HE : Hid (R = .error 1) := Lib.hid (by rw [HR.out, if_pos h1])
  clear h1 HR HA HB
  go_enter Tryz.func61, Tryz.ntmps61
  go_wp2
  go_ret2
  exact ⟨by rw [HE.out]; rfl, (Keeps.refl _ _).alloc _⟩
end Go.Proofs.YtpfkjejknlkkoaaGreatDoor
namespace Go.Proofs.YtpfkjejknlkkoaaGreatDoor
open Go.RowKit Go.BigFrame
attribute [local go_sem] bs_size bs_extract bs_append bs_toList
attribute [local go_sem] KW.cell
set_option maxRecDepth 100000 in
set_option maxHeartbeats 4000000 in
theorem cols_7 (at_ retry lk ln rk rn : Int) (outs js cols : List Bs) (op lc lw rc rw' : Bs) (Ao : Option Addr) (co : Nat) (Ai : Option Addr) (ni ci : Nat) (Ac : Option Addr) (cc : Nat) (ins : List (List Cl)) (AH : Option Addr) (ch : Nat) (w : World) (hH : RdHeads w AH ins) (hi : ins.length = 2) (ho : outs.length = 1)
  (hf : ∀ A d B e W, (ins.getD 0 []).length ≤ d → Rd w [] 2 A (ins.getD 0 []).length (csCells (ins.getD 0 [])) → (ins.getD 1 []).length ≤ e → Rd w [] 2 B (ins.getD 1 []).length (csCells (ins.getD 1 [])) → Keeps [] w W → Calls Tryz.prog 61 #[jAgg (⟨at_, 7, outs, js, cols, op, ⟨lc, lk, ln, lw⟩, ⟨rc, rk, rn, rw'⟩, retry⟩ : Jb) Ao co Ai ni ci Ac cc, .slice A (ins.getD 0 []).length d, .slice B (ins.getD 1 []).length e] W fun e w' => ColsOut (joinedJ (⟨at_, 7, outs, js, cols, op, ⟨lc, lk, ln, lw⟩, ⟨rc, rk, rn, rw'⟩, retry⟩ : Jb) (ins.getD 0 []) (ins.getD 1 [])) e w' ∧ Keeps [] W w') :
  Calls Tryz.prog 44 #[.agg #[.int .i64 at_, .int .i64 7, .slice Ao outs.length co, .slice Ai ni ci, .slice Ac cols.length cc, .string (bs op), .string (bs lc), .int .i64 lk, .int .i64 ln, .string (bs lw), .string (bs rc), .int .i64 rk, .int .i64 rn, .string (bs rw'), .int .i64 retry], .slice AH ins.length ch] w fun e w' => ColsOut (joinedJ (⟨at_, 7, outs, js, cols, op, ⟨lc, lk, ln, lw⟩, ⟨rc, rk, rn, rw'⟩, retry⟩ : Jb) (ins.getD 0 []) (ins.getD 1 [])) e w' ∧ Keeps [] w w' := by
 obtain ⟨b, o, A, d, rfl, hb, hd0, hd, hA⟩ := hH.first (by omega) (by omega)
 obtain ⟨B, dB, hd1, hdB, hB⟩ := hH.second (by omega) (by omega)
 have HF := Lib.hid (fun W => hf A d B dB W hd hA hdB hB)
 clear hf hA hB hH
 generalize joinedJ (⟨at_, 7, outs, js, cols, op, ⟨lc, lk, ln, lw⟩, ⟨rc, rk, rn, rw'⟩, retry⟩ : Jb) (ins.getD 0 []) (ins.getD 1 []) = R at *
 have HF' : Hid (∀ W, Keeps [] w W → Calls Tryz.prog 61 #[.agg #[.int .i64 at_, .int .i64 7, .slice Ao outs.length co, .slice Ai ni ci, .slice Ac cols.length cc, .string (bs op), .string (bs lc), .int .i64 lk, .int .i64 ln, .string (bs lw), .string (bs rc), .int .i64 rk, .int .i64 rn, .string (bs rw'), .int .i64 retry], .slice A (ins.getD 0 []).length d, .slice B (ins.getD 1 []).length dB] W fun e w' => ColsOut R e w' ∧ Keeps [] W w') := HF
 clear HF
 generalize (ins.getD 0 []).length = n at *
 generalize (ins.getD 1 []).length = n' at *
 have HS : Hid (∀ W, Calls Tryz.prog 57 #[.int .i64 7] W fun e W' => e = .returned (.tuple #[.int .i64 2, .int .i64 1]) ∧ W = W') := Lib.hid fun W => by
  have h := sizes_any 7 W
  rw [show sizesN 7 = (2, 1) by decide] at h
  exact h
 rw [hi]
 rw [ho] at HF' ⊢
 clear hi ho
 go_enter Tryz.func44, Tryz.ntmps44
 go_wp2_with (go_at_call 57; refine (HS.out _).mono ?_; rintro e w6 ⟨rfl, rfl⟩)
 go_upto_region 18 with (fail)
 have hbx : Blk (w.alloc (.cells #[.int .i64 at_, .int .i64 7, .slice Ao 1 co, .slice Ai ni ci, .slice Ac cols.length cc, .string (bs op), .string (bs lc), .int .i64 lk, .int .i64 ln, .string (bs lw), .string (bs rc), .int .i64 rk, .int .i64 rn, .string (bs rw'), .int .i64 retry] 36)) w.heap.size 36 #[.int .i64 at_, .int .i64 7, .slice Ao 1 co, .slice Ai ni ci, .slice Ac cols.length cc, .string (bs op), .string (bs lc), .int .i64 lk, .int .i64 ln, .string (bs lw), .string (bs rc), .int .i64 rk, .int .i64 rn, .string (bs rw'), .int .i64 retry] := Blk.new _ _ _
 have hkx : Keeps [] w (w.alloc (.cells #[.int .i64 at_, .int .i64 7, .slice Ao 1 co, .slice Ai ni ci, .slice Ac cols.length cc, .string (bs op), .string (bs lc), .int .i64 lk, .int .i64 ln, .string (bs lw), .string (bs rc), .int .i64 rk, .int .i64 rn, .string (bs rw'), .int .i64 retry] 36)) := (Keeps.refl _ _).alloc _
 generalize w.alloc (.cells #[.int .i64 at_, .int .i64 7, .slice Ao 1 co, .slice Ai ni ci, .slice Ac cols.length cc, .string (bs op), .string (bs lc), .int .i64 lk, .int .i64 ln, .string (bs lw), .string (bs rc), .int .i64 rk, .int .i64 rn, .string (bs rw'), .int .i64 retry] 36) = y at hbx hkx ⊢
 have hd2 : ∀ W, Keeps [] y W → W.cell? ⟨b, o + 1, none⟩ = some (.slice B n' dB) := fun W z => (hkx.trans z).cell_of hd1 (by simp)
 have y0 : ∀ W, Keeps [] y W → W.cell? ⟨w.heap.size, 0, none⟩ = some (.int .i64 at_) := fun W z => (hbx.keep z (by simp)).cell 0
 have y1 : ∀ W, Keeps [] y W → W.cell? ⟨w.heap.size, 1, none⟩ = some (.int .i64 7) := fun W z => (hbx.keep z (by simp)).cell 1
 have y2 : ∀ W, Keeps [] y W → W.cell? ⟨w.heap.size, 2, none⟩ = some (.slice Ao 1 co) := fun W z => (hbx.keep z (by simp)).cell 2
 have y3 : ∀ W, Keeps [] y W → W.cell? ⟨w.heap.size, 3, none⟩ = some (.slice Ai ni ci) := fun W z => (hbx.keep z (by simp)).cell 3
 have y4 : ∀ W, Keeps [] y W → W.cell? ⟨w.heap.size, 4, none⟩ = some (.slice Ac cols.length cc) := fun W z => (hbx.keep z (by simp)).cell 4
 have y5 : ∀ W, Keeps [] y W → W.cell? ⟨w.heap.size, 5, none⟩ = some (.string (bs op)) := fun W z => (hbx.keep z (by simp)).cell 5
 have y6 : ∀ W, Keeps [] y W → W.cell? ⟨w.heap.size, 6, none⟩ = some (.string (bs lc)) := fun W z => (hbx.keep z (by simp)).cell 6
 have y7 : ∀ W, Keeps [] y W → W.cell? ⟨w.heap.size, 7, none⟩ = some (.int .i64 lk) := fun W z => (hbx.keep z (by simp)).cell 7
 have y8 : ∀ W, Keeps [] y W → W.cell? ⟨w.heap.size, 8, none⟩ = some (.int .i64 ln) := fun W z => (hbx.keep z (by simp)).cell 8
 have y9 : ∀ W, Keeps [] y W → W.cell? ⟨w.heap.size, 9, none⟩ = some (.string (bs lw)) := fun W z => (hbx.keep z (by simp)).cell 9
 have y10 : ∀ W, Keeps [] y W → W.cell? ⟨w.heap.size, 10, none⟩ = some (.string (bs rc)) := fun W z => (hbx.keep z (by simp)).cell 10
 have y11 : ∀ W, Keeps [] y W → W.cell? ⟨w.heap.size, 11, none⟩ = some (.int .i64 rk) := fun W z => (hbx.keep z (by simp)).cell 11
 have y12 : ∀ W, Keeps [] y W → W.cell? ⟨w.heap.size, 12, none⟩ = some (.int .i64 rn) := fun W z => (hbx.keep z (by simp)).cell 12
 have y13 : ∀ W, Keeps [] y W → W.cell? ⟨w.heap.size, 13, none⟩ = some (.string (bs rw')) := fun W z => (hbx.keep z (by simp)).cell 13
 have y14 : ∀ W, Keeps [] y W → W.cell? ⟨w.heap.size, 14, none⟩ = some (.int .i64 retry) := fun W z => (hbx.keep z (by simp)).cell 14
 generalize w.heap.size = bx at *
 clear hbx hd1 hd0
 have HKX := Lib.hid hkx
 clear hkx
 go_region_held3 (fun W => Keeps [] y W) (first | exact (Keeps.refl [] y).drew | exact (Keeps.refl [] y).drew.trans hk3) (first | ((with_reducible refine (HF'.out _ HKX.out.drew).mono ?_); rintro e w3 ⟨hco, hk3⟩; obtain ⟨u, v, rfl, hco⟩ := hco.split))
 have HCO := Lib.hid hco
 have HK4 := Lib.hid (HKX.out.drew.trans hk3)
 clear hk3 hco
 go_wp2
 go_ret2
 exact ⟨HCO.out, HK4.out⟩
theorem colsA_any (j : Jb) (Ao : Option Addr) (co : Nat) (Ai : Option Addr) (ni ci : Nat) (Ac : Option Addr) (cc : Nat) (ins : List (List Cl)) (AH : Option Addr) (ch : Nat) (w : World) (hE : CEnv w) (hJ : JobIn w j Ao co Ac cc) (hH : RdHeads w AH ins) (hll : ∀ l ∈ ins, l.length ≤ 4294967) :
  Calls Tryz.prog 44 #[jAgg j Ao co Ai ni ci Ac cc, .slice AH ins.length ch] w fun e w' => ColsOut (colsJ j ins) e w' ∧ Keeps [] w w' := by
 have hget : ∀ k, (ins.getD k []).length ≤ 4294967 := fun k => by
  by_cases hk : k < ins.length
  ·rw [List.getD_eq_getElem?_getD, List.getElem?_eq_getElem hk]
   exact hll _ (List.getElem_mem hk)
  ·rw [List.getD_eq_getElem?_getD, List.getElem?_eq_none (by omega)]
   simp
 by_cases h7 : j.code = 7
 ·unfold colsJ
  by_cases hbad : (sizesN j.code).1 = 0 ∨ ins.length ≠ (sizesN j.code).1 ∨ j.outs.length ≠ (sizesN j.code).2
  ·rw [if_pos hbad]
   obtain ⟨at_, code, outs, js, cols, op, ⟨lc, lk, ln, lw⟩, ⟨rc, rk, rn, rw'⟩, retry⟩ := j
   exact cols_bad _ _ _ _ _ _ _ _ js _ _ _ _ _ _ _ _ _ _ _ _ _ _ _ _ _ hbad
  ·rw [if_neg hbad]
   have hi : ins.length = (sizesN j.code).1 := Decidable.byContradiction fun h => hbad (.inr (.inl h))
   have ho : j.outs.length = (sizesN j.code).2 := Decidable.byContradiction fun h => hbad (.inr (.inr h))
   have hjn := fun A d B e W (_ : (ins.getD 0 []).length ≤ d) (h2 : Rd w [] 2 A (ins.getD 0 []).length (csCells (ins.getD 0 []))) (h3 : (ins.getD 1 []).length ≤ e) (h4 : Rd w [] 2 B (ins.getD 1 []).length (csCells (ins.getD 1 []))) (q : Keeps [] w W) => joined_any j (ins.getD 0 []) (ins.getD 1 []) Ao co Ai ni ci Ac cc A d B e W (hJ.quiet q) (h2.keep q) (hget 0) (h4.keep q) h3 (hget 1)
   clear hbad hE hJ
   obtain ⟨at_, code, outs, js, cols, op, ⟨lc, lk, ln, lw⟩, ⟨rc, rk, rn, rw'⟩, retry⟩ := j
   simp only at h7 hi ho ⊢
   subst h7
   exact cols_7 at_ retry lk ln rk rn outs js cols op lc lw rc rw' Ao co Ai ni ci Ac cc ins AH ch w hH hi ho hjn
 ·exact cols_any j Ao co Ai ni ci Ac cc ins AH ch w hE hJ hH (fun l hl => Nat.le_trans (hll l hl) (by decide)) h7 (fun _ A d W h1 h2 q => grouped_any j (ins.getD 0 []) Ao co Ai ni ci Ac cc A d W (hJ.quiet q) (h2.keep q) (Nat.le_trans (hget 0) (by decide)))
end Go.Proofs.YtpfkjejknlkkoaaGreatDoor
