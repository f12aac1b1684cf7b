/- ops.Cols: Distinct, Union, what fails; all together. table.Right. strings.Builder, at this program: WriteString, String. -/
import Derived.Test.YtpfkjejknlkkoaaGreatDoorOsoM8
import Derived.Test.YtpfkjejknlkkoaaGreatDoorOsoM4
import Derived.Test.YtpfkjejknlkkoaaGreatDoorProg
import Derived.Test.YtpfkjejknlkkoaaGreatDoorOsoM1
import Derived.Test.YtpfkjejknlkkoaaGreatDoorOsoM5
import Derived.Shelf.Strings.Builder1
import Derived.Lib.OthersKept
set_option linter.unusedSimpArgs false
set_option linter.unusedVariables false
namespace Go.Proofs.YtpfkjejknlkkoaaGreatDoor
open Go.RowKit Go.BigFrame
attribute [local go_sem] bs_size bs_extract bs_append bs_toList
attribute [local go_sem] KW.cell
theorem size_alloc (w : World) (o : Obj) : (w.alloc o).heap.size = w.heap.size + 1 := by
 show (w.heap.push o).size = _
 simp
set_option maxHeartbeats 4000000 in
theorem cols_6 (at_ retry lk ln rk rn : Int) (outs _js cols : List Bs) (op lc lw rc rw' : Bs) (Ao : Option Addr) (co : Nat) (Ai : Option Addr) (ni ci : Nat) (Ac : Option Addr) (cc : Nat) (ins : List (List Cl)) (AH : Option Addr) (ch : Nat) (w : World) (hH : RdHeads w AH ins) (hi : ins.length = 1) (ho : outs.length = 1) :
  Calls Tryz.prog 44 #[.agg #[.int .i64 at_, .int .i64 6, .slice Ao outs.length co, .slice Ai ni ci, .slice Ac cols.length cc, .string (bs op), .string (bs lc), .int .i64 lk, .int .i64 ln, .string (bs lw), .string (bs rc), .int .i64 rk, .int .i64 rn, .string (bs rw'), .int .i64 retry], .slice AH ins.length ch] w fun e w' => ColsOut (.ok [ins.getD 0 []]) e w' ∧ Keeps [] w w' := by
 obtain ⟨b, o, A, d, rfl, hb, hd0, hd, hA⟩ := hH.first (by omega) (by omega)
 clear hH
 have HS : Hid (∀ W, Calls Tryz.prog 57 #[.int .i64 6] W fun e W' => e = .returned (.tuple #[.int .i64 1, .int .i64 1]) ∧ W = W') := Lib.hid fun W => by
  have h := sizes_any 6 W
  rw [show sizesN 6 = (1, 1) by decide] at h
  exact h
 rw [hi, ho]
 clear hi ho
 have HA := Lib.hid hA
 have HD := Lib.hid hd
 generalize ins.getD 0 [] = l at *
 clear hA hd
 have HK0 : Hid (Keeps [] w (w.alloc (.cells #[.int .i64 at_, .int .i64 6, .slice Ao 1 co, .slice Ai ni ci, .slice Ac cols.length cc, .string (bs op), .string (bs lc), .int .i64 lk, .int .i64 ln, .string (bs lw), .string (bs rc), .int .i64 rk, .int .i64 rn, .string (bs rw'), .int .i64 retry] 36))) := Lib.hid ((Keeps.refl _ _).alloc _)
 have HRO := Lib.hid (heads_one (HA.out.keep HK0.out) HD.out 22)
 rw [size_alloc] at HRO
 go_enter Tryz.func44, Tryz.ntmps44
 go_wp2_with (go_at_call 57; refine (HS.out _).mono ?_; rintro e w6 ⟨rfl, rfl⟩)
 go_ret2
 exact ⟨⟨_, _, rfl, Nat.le_refl _, HRO.out⟩, HK0.out.alloc _⟩
set_option maxHeartbeats 4000000 in
theorem cols_5 (at_ retry lk ln rk rn : Int) (outs _js cols : List Bs) (op lc lw rc rw' : Bs) (Ao : Option Addr) (co : Nat) (Ai : Option Addr) (ni ci : Nat) (Ac : Option Addr) (cc : Nat) (ins : List (List Cl)) (AH : Option Addr) (ch : Nat) (w : World) (hH : RdHeads w AH ins) (hll : ∀ l ∈ ins, l.length ≤ 4294967296) (hi : ins.length = 2) (ho : outs.length = 1) :
  Calls Tryz.prog 44 #[.agg #[.int .i64 at_, .int .i64 5, .slice Ao outs.length co, .slice Ai ni ci, .slice Ac cols.length cc, .string (bs op), .string (bs lc), .int .i64 lk, .int .i64 ln, .string (bs lw), .string (bs rc), .int .i64 rk, .int .i64 rn, .string (bs rw'), .int .i64 retry], .slice AH ins.length ch] w fun e w' => ColsOut (if ins.getD 0 [] ≠ ins.getD 1 [] then .error 13 else .ok [ins.getD 0 []]) e w' ∧ Keeps [] w w' := by
 obtain ⟨b, o, A, d, rfl, hb, hd0, hd, hA⟩ := hH.first (by omega) (by omega)
 obtain ⟨B, dB, hd1, hdB, hB⟩ := hH.second (by omega) (by omega)
 clear hH
 have hl0 : (ins.getD 0 []).length ≤ 4294967296 := hll _ (by rw [List.getD_eq_getElem?_getD, List.getElem?_eq_getElem (by omega)]; exact List.getElem_mem _)
 have hl1 : (ins.getD 1 []).length ≤ 4294967296 := hll _ (by rw [List.getD_eq_getElem?_getD, List.getElem?_eq_getElem (by omega)]; exact List.getElem_mem _)
 have HS : Hid (∀ W, Calls Tryz.prog 57 #[.int .i64 5] W fun e W' => e = .returned (.tuple #[.int .i64 2, .int .i64 1]) ∧ W = W') := Lib.hid fun W => by
  have h := sizes_any 5 W
  rw [show sizesN 5 = (2, 1) by decide] at h
  exact h
 rw [hi, ho]
 clear hi ho hll
 have HEQ := Lib.hid (fun W (q : Keeps [] w W) => equalC_any (ins.getD 0 []) (ins.getD 1 []) A B d dB W (hA.keep q) (hB.keep q) hl0 hl1)
 have HA := Lib.hid hA
 have HD := Lib.hid hd
 generalize ins.getD 0 [] = l at *
 generalize ins.getD 1 [] = m at *
 clear hA hd hB hl0 hl1 hdB
 have HK0 : Hid (Keeps [] w (w.alloc (.cells #[.int .i64 at_, .int .i64 5, .slice Ao 1 co, .slice Ai ni ci, .slice Ac cols.length cc, .string (bs op), .string (bs lc), .int .i64 lk, .int .i64 ln, .string (bs lw), .string (bs rc), .int .i64 rk, .int .i64 rn, .string (bs rw'), .int .i64 retry] 36))) := Lib.hid ((Keeps.refl _ _).alloc _)
 by_cases heq : l = m
 ·rw [decide_eq_true heq] at HEQ
  rw [if_neg (fun h => h heq)]
  clear heq
  go_enter Tryz.func44, Tryz.ntmps44
  go_wp2_with (go_at_call 57; refine (HS.out _).mono ?_; rintro e w6 ⟨rfl, rfl⟩)
  refine (HEQ.out _ HK0.out).mono ?_
  rintro e w3 ⟨rfl, hk3⟩
  have HK3 := Lib.hid (HK0.out.trans hk3)
  clear hk3
  have HRO := Lib.hid (heads_one (HA.out.keep HK3.out) HD.out 22)
  go_wp2
  go_ret2
  exact ⟨⟨_, _, rfl, Nat.le_refl _, HRO.out⟩, HK3.out.alloc _⟩
 ·rw [decide_eq_false heq] at HEQ
  rw [if_pos heq]
  clear heq
  go_enter Tryz.func44, Tryz.ntmps44
  go_wp2_with (go_at_call 57; refine (HS.out _).mono ?_; rintro e w6 ⟨rfl, rfl⟩)
  refine (HEQ.out _ HK0.out).mono ?_
  rintro e w3 ⟨rfl, hk3⟩
  have HK3 := Lib.hid (HK0.out.trans hk3)
  clear hk3
  go_wp2
  go_ret2
  exact ⟨rfl, HK3.out⟩
set_option maxHeartbeats 4000000 in
theorem cols_bad (at_ code retry lk ln rk rn : Int) (outs _js cols : List Bs) (op lc lw rc rw' : Bs) (Ao : Option Addr) (co : Nat) (Ai : Option Addr) (ni ci : Nat) (Ac : Option Addr) (cc : Nat) (ins : List (List Cl)) (AH : Option Addr) (ch : Nat) (w : World) (hbad : (sizesN code).1 = 0 ∨ ins.length ≠ (sizesN code).1 ∨ outs.length ≠ (sizesN code).2) :
  Calls Tryz.prog 44 #[.agg #[.int .i64 at_, .int .i64 code, .slice Ao outs.length co, .slice Ai ni ci, .slice Ac cols.length cc, .string (bs op), .string (bs lc), .int .i64 lk, .int .i64 ln, .string (bs lw), .string (bs rc), .int .i64 rk, .int .i64 rn, .string (bs rw'), .int .i64 retry], .slice AH ins.length ch] w fun e w' => ColsOut (.error 1) e w' ∧ Keeps [] w w' := by
 have HS := Lib.hid (fun W => sizes_any code W)
 generalize sizesN code = s at *
 obtain ⟨s1, s2⟩ := s
 simp only at hbad HS
 have hto : ∃ b1 b2 b3, ((s1 : Int) == 0) = b1 ∧ ((ins.length : Int) != (s1 : Int)) = b2 ∧ ((outs.length : Int) != (s2 : Int)) = b3 ∧ (b1 = true ∨ b2 = true ∨ b3 = true) := ⟨_, _, _, rfl, rfl, rfl, by
  rcases hbad with h | h | h
  ·exact .inl (by rw [h]; rfl)
  ·exact .inr (.inl (by rw [bne_iff_ne]; omega))
  ·exact .inr (.inr (by rw [bne_iff_ne]; omega))⟩
 obtain ⟨b1, b2, b3, t1, t2, t3, hbb⟩ := hto
 clear hbad
 have hway : (b1 = true) ∨ (b1 = false ∧ b2 = true) ∨ (b1 = false ∧ b2 = false ∧ b3 = true) := by
  cases b1 <;> cases b2 <;> cases b3 <;> simp at hbb ⊢
 clear hbb
 rcases hway with rfl | ⟨rfl, rfl⟩ | ⟨rfl, rfl, rfl⟩
 all_goals
  go_enter Tryz.func44, Tryz.ntmps44
  go_wp2_with (go_at_call 57; refine (HS.out _).mono ?_; rintro e w6 ⟨rfl, rfl⟩)
  go_ret2
  exact ⟨rfl, (Keeps.refl _ _).alloc _⟩
theorem sizes_pos {code : Int} (h : (sizesN code).1 ≠ 0) : code = 5 ∨ code = 7 ∨ code = 9 ∨ code = 1 ∨ code = 2 ∨ code = 3 ∨ code = 4 ∨ code = 6 ∨ code = 8 := by
 unfold sizesN at h
 split at h
 ·omega
 ·split at h
  ·omega
  ·split at h
   ·omega
   ·exact absurd rfl h
set_option maxHeartbeats 1000000 in
theorem cols_any (j : Jb) (Ao : Option Addr) (co : Nat) (Ai : Option Addr) (ni ci : Nat) (Ac : Option Addr) (cc : Nat) (ins : List (List Cl)) (AH : Option Addr) (ch : Nat) (w : World) (hE : CEnv w) (hJ : JobIn w j Ao co Ac cc) (hH : RdHeads w AH ins) (hll : ∀ l ∈ ins, l.length ≤ 4294967296) (h7 : j.code ≠ 7)
  (h8 : j.code = 8 → ∀ A d W, (ins.getD 0 []).length ≤ d → Rd w [] 2 A (ins.getD 0 []).length (csCells (ins.getD 0 [])) → Keeps [] w W → Calls Tryz.prog 62 #[jAgg j Ao co Ai ni ci Ac cc, .slice A (ins.getD 0 []).length d] W fun e w' => ColsOut (groupedJ j (ins.getD 0 [])) e w' ∧ Keeps [] W w') :
  Calls Tryz.prog 44 #[jAgg j Ao co Ai ni ci Ac cc, .slice AH ins.length ch] w fun e w' => ColsOut (colsJ j ins) e w' ∧ Keeps [] w w' := by
 unfold colsJ
 by_cases hbad : (sizesN j.code).1 = 0 ∨ ins.length ≠ (sizesN j.code).1 ∨ j.outs.length ≠ (sizesN j.code).2
 ·rw [if_pos hbad]
  obtain ⟨at_, code, outs, js, cols, op, ⟨lc, lk, ln, lw⟩, ⟨rc, rk, rn, rw'⟩, retry⟩ := j
  exact cols_bad _ _ _ _ _ _ _ _ js _ _ _ _ _ _ _ _ _ _ _ _ _ _ _ _ _ hbad
 ·rw [if_neg hbad]
  have h0 : (sizesN j.code).1 ≠ 0 := fun h => hbad (.inl h)
  have hi : ins.length = (sizesN j.code).1 := Decidable.byContradiction fun h => hbad (.inr (.inl h))
  have ho : j.outs.length = (sizesN j.code).2 := Decidable.byContradiction fun h => hbad (.inr (.inr h))
  have hl0 : (ins.getD 0 []).length ≤ 4294967296 := hll _ (by rw [List.getD_eq_getElem?_getD, List.getElem?_eq_getElem (by omega)]; exact List.getElem_mem _)
  have hcp := fun A d W (h1 : (ins.getD 0 []).length ≤ d) (h2 : Rd w [] 2 A (ins.getD 0 []).length (csCells (ins.getD 0 []))) (q : Keeps [] w W) => compared_any j (ins.getD 0 []) Ao co Ai ni ci Ac cc A d W (hE.quiet q) (h2.keep q) h1 hl0
  have hst := fun A d W (h1 : (ins.getD 0 []).length ≤ d) (h2 : Rd w [] 2 A (ins.getD 0 []).length (csCells (ins.getD 0 []))) (q : Keeps [] w W) => set_any j (ins.getD 0 []) Ao co Ai ni ci Ac cc A d W (hJ.quiet q) (h2.keep q) h1 hl0
  have hpk := fun A d W (h1 : (ins.getD 0 []).length ≤ d) (h2 : Rd w [] 2 A (ins.getD 0 []).length (csCells (ins.getD 0 []))) (q : Keeps [] w W) => picked_any j (ins.getD 0 []) Ao co Ai ni ci Ac cc A d W (hJ.quiet q) (h2.keep q) h1 hl0
  have hcase := sizes_pos h0
  clear hbad h0 hE hJ
  obtain ⟨at_, code, outs, js, cols, op, ⟨lc, lk, ln, lw⟩, ⟨rc, rk, rn, rw'⟩, retry⟩ := j
  simp only at h7 h8 hi ho hcase ⊢
  rcases hcase with rfl | rfl | rfl | rfl | rfl | rfl | rfl | rfl | rfl
  ·exact cols_5 at_ retry lk ln rk rn outs js cols op lc lw rc rw' Ao co Ai ni ci Ac cc ins AH ch w hH hll hi ho
  ·exact absurd rfl h7
  ·exact cols_9 at_ retry lk ln rk rn outs js cols op lc lw rc rw' Ao co Ai ni ci Ac cc ins AH ch w hH hi ho hcp
  ·exact cols_1 at_ retry lk ln rk rn outs js cols op lc lw rc rw' Ao co Ai ni ci Ac cc ins AH ch w hH hi ho hcp
  ·exact cols_2 at_ retry lk ln rk rn outs js cols op lc lw rc rw' Ao co Ai ni ci Ac cc ins AH ch w hH hi ho hst
  ·exact cols_3 at_ retry lk ln rk rn outs js cols op lc lw rc rw' Ao co Ai ni ci Ac cc ins AH ch w hH hi ho hpk
  ·exact cols_4 at_ retry lk ln rk rn outs js cols op lc lw rc rw' Ao co Ai ni ci Ac cc ins AH ch w hH hi ho hpk
  ·exact cols_6 at_ retry lk ln rk rn outs js cols op lc lw rc rw' Ao co Ai ni ci Ac cc ins AH ch w hH hi ho
  ·exact cols_8 at_ retry lk ln rk rn outs js cols op lc lw rc rw' Ao co Ai ni ci Ac cc ins AH ch w hH hi ho (h8 rfl)
end Go.Proofs.YtpfkjejknlkkoaaGreatDoor
namespace Go.Proofs.YtpfkjejknlkkoaaGreatDoor
open Go.RowKit
attribute [local go_sem] bs_size bs_extract bs_append bs_toList
theorem rowB_false {cs : List Cl} {r : List Vl} {n : Nat} (h : n < r.length) (hb : okAt cs r n = false) : rowB cs r = false := by
 unfold rowB
 have : (List.range r.length).all (okAt cs r) = false := by
  rw [List.all_eq_false]
  exact ⟨n, List.mem_range.2 h, by rw [hb]; decide⟩
 rw [this, Bool.and_false]
theorem rightB_false {t : Tb} {n : Nat} (h : n < t.rows.length) (hb : rowB t.cols t.rows[n] = false) : rightB t = false := by
 unfold rightB
 have : t.rows.all (rowB t.cols) = false := by
  rw [List.all_eq_false]
  exact ⟨_, List.getElem_mem h, by rw [hb]; decide⟩
 rw [this, Bool.and_false]
def tAgg (A : Option Addr) (n c : Nat) (B : Option Addr) (m d : Nat) : Value := .agg #[.slice A n c, .slice B m d]
set_option maxRecDepth 100000 in
set_option maxHeartbeats 4000000 in
theorem right_any (t : Tb) (A B : Option Addr) (c d : Nat) (w : World) (hA : Rd w [] 2 A t.cols.length (csCells t.cols)) (hc : t.cols.length ≤ c) (hB : RdRows w [] B t.rows) (hn : ∀ x ∈ t.cols, x.name.length ≤ 1000000000) (hl : t.cols.length ≤ 4294967296) (hm : t.rows.length ≤ 4294967296) (hr : ∀ r ∈ t.rows, r.length ≤ 4294967296) :
  Calls Tryz.prog 43 #[tAgg A t.cols.length c B t.rows.length d] w fun e w' => e = .returned (.bool (rightB t)) ∧ Keeps [] w w' := by
 have hcols := fun W (q : Keeps [] w W) => rightCols_any t.cols A c W (hA.keep q) hc hn hl
 have HA := Lib.hid hA
 have HB := Lib.hid hB
 have HRR := Lib.hid hr
 clear hA hB hn hr
 show Calls _ _ #[.agg #[.slice A t.cols.length c, .slice B t.rows.length d]] w _
 cases h1 : colsB t.cols with
 | false =>
  rw [h1] at hcols
  have HC := Lib.hid hcols
  have HF : Hid (rightB t = false) := Lib.hid (by unfold rightB; rw [h1]; rfl)
  clear hcols h1
  go_enter Tryz.func43, Tryz.ntmps43
  go_wp2_with (go_at_call 40; refine (HC.out _ ((Keeps.refl _ _).alloc _)).mono ?_; rintro e w5 ⟨rfl, hk5⟩)
  go_ret
  exact ⟨by rw [HF.out]; rfl, ((Keeps.refl _ _).alloc _).trans hk5⟩
 | true =>
  rw [h1] at hcols
  have HC := Lib.hid hcols
  have HC1 := Lib.hid h1
  clear hcols h1
  by_cases h2 : t.rows.length ≤ 60
  ·have h2' : ¬ ((60 : Int) < (t.rows.length : Int)) := by omega
   go_enter Tryz.func43, Tryz.ntmps43
   go_wp2_with (go_at_call 40; refine (HC.out _ ((Keeps.refl _ _).alloc _)).mono ?_; rintro e w5 ⟨rfl, hk5⟩; have q0 := hk5.cell_of (p := ⟨w.heap.size, 0, none⟩) (v := .slice A t.cols.length c) (by simp) (by simp); have q1 := hk5.cell_of (p := ⟨w.heap.size, 1, none⟩) (v := .slice B t.rows.length d) (by simp) (by simp))
   obtain ⟨bt, hbt⟩ : ∃ bt, w.heap.size = bt := ⟨_, rfl⟩
   have HK5 := Lib.hid (((Keeps.refl [] w).alloc (.cells #[.slice A t.cols.length c, .slice B t.rows.length d] 25)).trans hk5)
   rw [hbt] at q0 q1 ⊢
   have Q0 := Lib.hid q0
   have Q1 := Lib.hid q1
   clear hk5 hbt q0 q1
   go_loopw [20] (fun i wr => ∃ n : Nat, n ≤ t.rows.length ∧ i = .int .i64 n ∧ Hid (∀ j (hj : j < n) (hl : j < t.rows.length), rowB t.cols t.rows[j] = true) ∧ Keeps [] w5 wr) (fun i _ => t.rows.length - (intOf i).toNat)
   case atStart => exact ⟨0, Nat.zero_le _, rfl, fun j hj => absurd hj (by omega), Keeps.refl _ _⟩
   case round =>
    obtain ⟨n, hn, rfl, hno, hk⟩ := hrel
    by_cases hlt : n < t.rows.length
    ·obtain ⟨us, hul, hu1, hu2⟩ := (HB.out.keep HK5.out).keep hk
     obtain ⟨b, o, rfl, _, hb, hcs⟩ := hu1.open' (by omega) (by omega)
     have d1 := hcs n _ (List.getElem?_eq_getElem (by omega))
     obtain ⟨Ar, cr, hue, hcr, hRr⟩ := hu2 n (by omega) hlt
     rw [hue] at d1
     have q0 := hk.cell_of Q0.out (by simp)
     have q1 := hk.cell_of Q1.out (by simp)
     have hrl4 := HRR.out _ (List.getElem_mem hlt)
     have hbad : rowB t.cols t.rows[n] = false → Hid (rightB t = false) := fun h => Lib.hid (rightB_false hlt h)
     have HROW : Hid (∀ r, t.rows[n] = r → rowB t.cols r = true → ∀ j (hj : j < n + 1) (hl : j < t.rows.length), rowB t.cols t.rows[j] = true) := fun r e hr j hj hl => by
      by_cases h : j < n
      ·exact hno.out j h hl
      ·obtain rfl : j = n := by omega
       rw [e]; exact hr
     generalize hr : t.rows[n] = r at *
     have HBAD := Lib.hid hbad
     have HNX := HROW.out r rfl
     have HNX := Lib.hid HNX
     clear hno hcs hu1 hu2 hue hul hbad HROW hr
     by_cases hrl : r.length = t.cols.length
     ·have hb1 : ((r.length : Int) != (t.cols.length : Int)) = false := by simp [hrl]
      have HRL := Lib.hid hrl
      obtain ⟨wo, hwo⟩ : ∃ wo : World, wo = wr := ⟨_, rfl⟩
      subst hwo
      have hlc : r.length ≤ t.cols.length := by omega
      clear hrl
      go_wp2
      go_loopw [32] (fun i wr => ∃ m : Nat, m ≤ r.length ∧ i = .int .i64 m ∧ Hid (∀ j, j < m → okAt t.cols r j = true) ∧ Keeps [] wo wr) (fun i _ => r.length - (intOf i).toNat)
      case atStart => exact ⟨0, Nat.zero_le _, rfl, fun j hj => absurd hj (by omega), Keeps.refl _ _⟩
      case round =>
       obtain ⟨m, hm, rfl, hok, hk2⟩ := hrel
       by_cases hlt2 : m < r.length
       ·obtain ⟨b2, o2, rfl, _, hb2, hcs2⟩ := (hRr.keep hk2).open' (by omega) (by omega)
        have e1 := hcs2 (m * 3) _ (vsCells_at r m hlt2).1
        have e2 := hcs2 (m * 3 + 1) _ (vsCells_at r m hlt2).2.1
        have e3 := hcs2 (m * 3 + 2) _ (vsCells_at r m hlt2).2.2
        rw [← Nat.add_assoc] at e2 e3
        obtain ⟨b3, o3, hA3, _, hb3, hcs3⟩ := (((HA.out.keep HK5.out).keep hk).keep hk2).open' (by omega) (by omega)
        have f1 := hcs3 (m * 2 + 1) _ (csCells_at t.cols m (by omega)).2
        rw [← Nat.add_assoc] at f1
        have hokm : okAt t.cols r m = (decide (r[m].kind = (t.cols[m]'(by omega)).kind) && rvB r[m]) := by unfold okAt; rw [List.getElem?_eq_getElem hlt2, List.getElem?_eq_getElem (by omega)]
        have q0 := hk2.cell_of q0 (by simp)
        generalize r[m] = x at *
        generalize (t.cols[m]'(by omega)).kind = ck at *
        obtain ⟨xk, xn, xs⟩ := x
        subst hA3
        simp only at e1 e2 e3 hokm
        have HBA : Hid (okAt t.cols r m = false → Hid (rightB t = false)) := Lib.hid (fun h => HBAD.out (rowB_false hlt2 h))
        have HK2 := Lib.hid hk2
        have hmc : m < t.cols.length := by omega
        clear hcs2 hcs3 hk2
        have hbt : bt < wr.heap.size := World.block_lt_of_cell? wr _ q0
        have hrv := rightValue_any ⟨xk, xn, xs⟩
        have hal := fun o => (Keeps.refl [] wr).alloc o
        have G : Hid ((wr.alloc (.cells #[.int .i64 xk, .int .i64 xn, .string (bs xs)] 32)).drew.cell? ⟨wr.heap.size, 0, none⟩ = some (.int .i64 xk) ∧ (wr.alloc (.cells #[.int .i64 xk, .int .i64 xn, .string (bs xs)] 32)).drew.cell? ⟨wr.heap.size, 1, none⟩ = some (.int .i64 xn) ∧ (wr.alloc (.cells #[.int .i64 xk, .int .i64 xn, .string (bs xs)] 32)).drew.cell? ⟨wr.heap.size, 2, none⟩ = some (.string (bs xs)) ∧ (wr.alloc (.cells #[.int .i64 xk, .int .i64 xn, .string (bs xs)] 32)).drew.cell? ⟨bt, 0, none⟩ = some (.slice (some ⟨b3, o3, none⟩) t.cols.length c) ∧ (wr.alloc (.cells #[.int .i64 xk, .int .i64 xn, .string (bs xs)] 32)).drew.cell? ⟨b3, o3 + m * 2 + 1, none⟩ = some (.int .i64 ck)) := Lib.hid ⟨by simp, by simp, by simp, (hal _).cell_of (p := ⟨bt, 0, none⟩) q0 (by simp), (hal _).cell_of (p := ⟨b3, o3 + m * 2 + 1, none⟩) f1 (by simp)⟩
        clear hal
        by_cases hkk : xk = ck
        ·subst hkk
         have hz : (xk != xk) = false := by simp
         have hokm' : okAt t.cols r m = rvB ⟨xk, xn, xs⟩ := by rw [hokm, decide_eq_true rfl, Bool.true_and]
         cases hb : rvB ⟨xk, xn, xs⟩ with
         | true =>
          rw [hb] at hrv hokm'
          have HRV := Lib.hid hrv
          have hok' : Hid (∀ j, j < m + 1 → okAt t.cols r j = true) := fun j hj => by
           by_cases h : j < m
           ·exact hok.out j h
           ·obtain rfl : j = m := by omega
            exact hokm'
          clear hrv hokm hokm' hb
          go_wp2_with fail
          go_region_held3 (fun w' => w'.cell? ⟨wr.heap.size, 0, none⟩ = some (.int .i64 xk) ∧ w'.cell? ⟨wr.heap.size, 1, none⟩ = some (.int .i64 xn) ∧ w'.cell? ⟨wr.heap.size, 2, none⟩ = some (.string (bs xs)) ∧ w'.cell? ⟨bt, 0, none⟩ = some (.slice (some ⟨b3, o3, none⟩) t.cols.length c) ∧ w'.cell? ⟨b3, o3 + m * 2 + 1, none⟩ = some (.int .i64 xk)) (first | exact G.out | exact ⟨hk6.cell_of G.out.1 (by simp), hk6.cell_of G.out.2.1 (by simp), hk6.cell_of G.out.2.2.1 (by simp), hk6.cell_of G.out.2.2.2.1 (by simp), hk6.cell_of G.out.2.2.2.2 (by simp)⟩ | go_keep) (first | (go_at_call 56; refine (HRV.out _).mono ?_; rintro e w6 ⟨rfl, hk6⟩))
          all_goals go_wp2
          all_goals have K6 := Lib.hid ((HK2.out.alloc _).drew.trans hk6)
          all_goals clear hk6
          all_goals go_roundw
          case rel => exact ⟨m + 1, by omega, by go_num, hok', K6.out⟩
          case measure => simp [intOf]; omega
         | false =>
          rw [hb] at hrv hokm'
          have HRV := Lib.hid hrv
          have HF := HBA.out hokm'
          clear hrv hokm hokm' hb
          go_wp2_with fail
          go_region_held3 (fun w' => w'.cell? ⟨wr.heap.size, 0, none⟩ = some (.int .i64 xk) ∧ w'.cell? ⟨wr.heap.size, 1, none⟩ = some (.int .i64 xn) ∧ w'.cell? ⟨wr.heap.size, 2, none⟩ = some (.string (bs xs)) ∧ w'.cell? ⟨bt, 0, none⟩ = some (.slice (some ⟨b3, o3, none⟩) t.cols.length c) ∧ w'.cell? ⟨b3, o3 + m * 2 + 1, none⟩ = some (.int .i64 xk)) (first | exact G.out | exact ⟨hk6.cell_of G.out.1 (by simp), hk6.cell_of G.out.2.1 (by simp), hk6.cell_of G.out.2.2.1 (by simp), hk6.cell_of G.out.2.2.2.1 (by simp), hk6.cell_of G.out.2.2.2.2 (by simp)⟩ | go_keep) (first | (go_at_call 56; refine (HRV.out _).mono ?_; rintro e w6 ⟨rfl, hk6⟩))
          all_goals go_wp2
          all_goals go_ret
          all_goals exact ⟨by rw [HF.out]; rfl, (HK5.out.trans hk).trans ((HK2.out.alloc _).drew.trans hk6)⟩
        ·have hz : (xk != ck) = true := by rw [bne_iff_ne]; exact hkk
         have HF := HBA.out (by rw [hokm, decide_eq_false hkk, Bool.false_and])
         clear hrv hokm hkk
         go_wp2_with fail
         go_quiet (fail)
         all_goals go_wp2
         all_goals go_ret
         all_goals exact ⟨by rw [HF.out]; rfl, (HK5.out.trans hk).trans ((HK2.out.alloc _).drewN _)⟩
       ·have hrow := Lib.hid (HNX.out (by
         unfold rowB
         rw [decide_eq_true HRL.out, Bool.true_and, List.all_eq_true]
         intro j hj
         exact hok.out j (by have := List.mem_range.1 hj; omega)))
        have HKK := Lib.hid (hk.trans hk2)
        clear hk2 hok
        go_wp2
        go_roundw
        case rel => exact ⟨n + 1, by omega, by go_num, hrow, HKK.out⟩
        case measure => simp [intOf]; omega
     ·have hb1 : ((r.length : Int) != (t.cols.length : Int)) = true := by rw [bne_iff_ne]; omega
      have HF := HBAD.out (by unfold rowB; rw [decide_eq_false hrl, Bool.false_and])
      clear hrl
      go_wp2
      go_ret
      exact ⟨by rw [HF.out]; rfl, HK5.out.trans hk⟩
    ·have hfin : Hid (rightB t = true) := Lib.hid (by
      unfold rightB
      rw [HC1.out, decide_eq_true h2, Bool.and_self, Bool.true_and, List.all_eq_true]
      intro r hr
      obtain ⟨j, hj, rfl⟩ := List.getElem_of_mem hr
      exact hno.out j (by omega) hj)
     go_wp2
     go_ret
     exact ⟨by rw [hfin.out]; rfl, HK5.out.trans hk⟩
  ·have h2' : (60 : Int) < (t.rows.length : Int) := by omega
   have HF : Hid (rightB t = false) := Lib.hid (by unfold rightB; rw [decide_eq_false h2, Bool.and_false, Bool.false_and])
   clear h2
   go_enter Tryz.func43, Tryz.ntmps43
   go_wp2_with (go_at_call 40; refine (HC.out _ ((Keeps.refl _ _).alloc _)).mono ?_; rintro e w5 ⟨rfl, hk5⟩; have q1 := hk5.cell_of (p := ⟨w.heap.size, 1, none⟩) (v := .slice B t.rows.length d) (by simp) (by simp))
   go_ret
   exact ⟨by rw [HF.out]; rfl, ((Keeps.refl _ _).alloc _).trans hk5⟩
end Go.Proofs.YtpfkjejknlkkoaaGreatDoor
namespace Go.Proofs.YtpfkjejknlkkoaaGreatDoor
open Go.RowKit
attribute [local go_sem] bs_size bs_extract bs_append bs_toList
def Bld (w : World) (B b : Nat) (l : Bs) : Prop := Lib.IsBuilder 93 5 B b (Lib.byteCells l) w
theorem bytes_len (l : Bs) : (Lib.byteCells l).length = l.length := by simp [Lib.byteCells]
theorem bld_info : (Tryz.prog.info? 5).map (fun i => (i.zero, i.size, i.bytes)) = some (some (.int .u8 0), 1, 1) := by kernel_rfl
theorem bld_size : (Tryz.prog.info? 93).map (·.size) = some 2 := by kernel_rfl
theorem bld_lies : liesAt Tryz.prog Tryz.prog.depth 93 (2 / Tryz.prog.cellsOf 93) 0 93 1 = true := by kernel_rfl
set_option maxHeartbeats 1000000 in
set_option maxRecDepth 100000 in
theorem copy_fresh (b : Nat) (w : World) (h0 : w.cell? ⟨b, 0, none⟩ = some (.pointer none)) (hsh : w.shape? b = some (93, 2)) (hfz : w.frozen? ⟨b, 0, none⟩ = false) :
  Calls Tryz.prog 72 #[.pointer (some ⟨b, 0, none⟩)] w fun e w' => e = .returned (.tuple #[]) ∧ w' = w.setCell ⟨b, 0, none⟩ (.pointer (some ⟨b, 0, none⟩)) := by
 obtain ⟨j, hj, hjs⟩ := Option.map_eq_some_iff.1 bld_size
 go_enter Tryz.func72, Tryz.ntmps72
 go_wp2
 rw [Lib.run_to_unsafe w ⟨b, 0, none⟩ Tryz.underlying90 Tryz.underlying132 hj (by rw [hjs]; decide) hsh (Nat.zero_lt_succ 1)]
 simp only [Result.andThen]
 rw [Oper.upon_value]
 go_wp2
 rw [run_callFunc_extern Tryz.func96 (by kernel_rfl) (by kernel_rfl) (by kernel_rfl) (e := Extern.AbiNoEscape.same) (by kernel_rfl)]
 rw [Lib.run_noEscape]
 simp only [Result.andThen]
 rw [Oper.upon_value]
 go_wp2
 rw [Lib.run_from_unsafe w ⟨b, 0, none⟩ Tryz.underlying132 Tryz.underlying90 hj hsh bld_lies]
 simp only [Result.andThen]
 rw [Oper.upon_value]
 go_wp2
 go_end0
 exact ⟨rfl, rfl⟩
set_option maxRecDepth 100000 in
theorem copy_used (b : Nat) (w : World) (h0 : w.cell? ⟨b, 0, none⟩ = some (.pointer (some ⟨b, 0, none⟩))) :
  Calls Tryz.prog 72 #[.pointer (some ⟨b, 0, none⟩)] w fun e w' => e = .returned (.tuple #[]) ∧ w' = w := by
 obtain ⟨j, hj, hjs⟩ := Option.map_eq_some_iff.1 bld_size
 go_enter Tryz.func72, Tryz.ntmps72
 go_wp2
 rw [Lib.run_neq_ptr_same w _ Tryz.underlying90 hj]
 go_wp2
 go_end0
 exact ⟨rfl, rfl⟩
theorem copy_any (B b : Nat) (bs : List Value) (w : World) (h : Lib.IsBuilder 93 5 B b bs w) :
  Calls Tryz.prog 72 #[.pointer (some ⟨b, 0, none⟩)] w fun e w' => e = .returned (.tuple #[]) ∧ (Lib.BuilderAt 93 5 B b (.pointer (some ⟨b, 0, none⟩)) bs w' ∧ Below B w w' ∧ Lib.OthersKept 5 (some b) w w') := by
 rcases h with h | h
 ·refine (copy_fresh b w h.cell0 h.shape h.frozen0).mono ?_
  rintro e w' ⟨rfl, rfl⟩
  exact ⟨rfl, h.used _, (Below.refl B w).setCell (p := ⟨b, 0, none⟩) h.1 _, Lib.OthersKept.setCell (b := b) (Lib.OthersKept.refl _ _ _) ⟨b, 0, none⟩ rfl _⟩
 ·refine (copy_used b w h.cell0).mono ?_
  rintro e w' ⟨rfl, rfl⟩
  exact ⟨rfl, h, Below.refl B _, Lib.OthersKept.refl _ _ _⟩
theorem bld_kind {w : World} {B : Nat} {e : TypeId} {v : Value} {n : Nat} {xs : List Value} (h : w.ownsRow B e 1 v n xs) : ∀ g, v.ownBlock = some g → ∃ c fz, w.heap[g]? = some (.cells c e fz) := fun g hg => by
 rcases h.2 with ⟨rfl, _⟩ | ⟨g', cap, cur, rfl, _, hh, _⟩
 ·cases hg
 ·have : g' = g := by simpa [Value.ownBlock] using hg
  subst this
  exact ⟨cur, _, hh⟩
theorem bld_after {w1 w2 : World} {b : Nat} {t : TypeId} {cs : Array Value} {v : Value} {o : Obj} (hbk : w1.heap[b]? = some (.cells cs t (0, 0))) (hgrow : (w1.alloc o).grownBy w2 v.ownBlock) (hne : v.ownBlock ≠ some b) :
  b < w1.heap.size ∧ w2.heap[b]? = some (.cells cs t (0, 0)) := by
 have hlt : b < w1.heap.size := (Array.getElem?_eq_some_iff.1 hbk).1
 exact ⟨hlt, by rw [hgrow.block b (by simp; omega) (fun e => hne e.symm), Lib.alloc_old w1 _ b hlt]; exact hbk⟩
theorem bld_after' {w1 w2 : World} {b : Nat} {t : TypeId} {cs : Array Value} {v : Value} (hbk : w1.heap[b]? = some (.cells cs t (0, 0))) (hgrow : w1.grownBy w2 v.ownBlock) (hne : v.ownBlock ≠ some b) :
  b < w1.heap.size ∧ w2.heap[b]? = some (.cells cs t (0, 0)) := by
 have hlt : b < w1.heap.size := (Array.getElem?_eq_some_iff.1 hbk).1
 exact ⟨hlt, by rw [hgrow.block b hlt (fun e => hne e.symm)]; exact hbk⟩
set_option maxHeartbeats 1000000 in
set_option maxRecDepth 100000 in
theorem writeString_any {w : World} {B b : Nat} {l : Bs} (h : Bld w B b l) (s : Bs) (hlen : l.length ≤ 1000000000) (hs : s.length ≤ 1000000000) (hBw : B ≤ w.heap.size) :
  Calls Tryz.prog 47 #[.pointer (some ⟨b, 0, none⟩), .string (bs s)] w fun e w' => e = .returned (.tuple #[.int .i64 s.length, .nilIface]) ∧ Bld w' B b (l ++ s) ∧ Below B w w' ∧ Lib.OthersKept 5 (some b) w w' := by
 obtain ⟨i0, hi, hz0, hz1, hz2⟩ := info_parts bld_info
 have hl := bytes_len l
 have HL := Lib.hid hl
 have HB := Lib.hid (copy_any B b (Lib.byteCells l) w h)
 clear hl h
 go_enter Tryz.func47, Tryz.ntmps47
 go_wp2_with fail
 refine HB.out.mono ?_
 rintro e w1 ⟨rfl, h1, hb1, ko1⟩
 obtain ⟨hB, v, hbk, hown, hne⟩ := h1
 have c1 : w1.cell? ⟨b, 1, none⟩ = some v := by rw [Lib.cell_of_heap hbk]; rfl
 have HBK := Lib.hid hbk
 have HO := Lib.hid hown
 have HB1 := Lib.hid hb1
 have KO1 := Lib.hid ko1
 have HS := Lib.hid (show B ≤ w1.heap.size by have := hb1.size; omega)
 have HM := Lib.hid (show (Lib.byteCells l).length + (bs s).size ≤ maxLen ∧ (Lib.byteCells l).length + (bs s).size ≤ 140737488355328 by rw [HL.out, bs_size]; simp only [maxLen]; omega)
 clear hbk hown hb1 ko1
 go_wp2_with (at_builtin; refine Lib.wpList_append_own_string _ rfl _ _ 91 9 rfl B 5 i0 Tryz.underlying91 Tryz.underlying9 hi hz0 hz1 hz2 _ _ _ rfl HO.out (bs s) rfl HM.out.1 HM.out.2 HS.out ?_)
 intro vv w2 hown' hgrow hnn
 obtain ⟨hlt, hb2⟩ := bld_after' HBK.out hgrow hne
 have d1 : w2.cell? ⟨b, 1, none⟩ = some v := by rw [Lib.cell_of_heap hb2]; rfl
 have f1 : w2.frozen? ⟨b, 1, none⟩ = false := Lib.frozen_of_heap hb2 1
 obtain ⟨ao, n', cap, rfl⟩ : ∃ ao n' cap, vv = .slice ao n' cap := by
  rcases hown'.2 with ⟨hv, _⟩ | ⟨g, cap, cur, hv, _⟩
  ·exact ⟨_, _, _, hv⟩
  ·exact ⟨_, _, _, hv⟩
 have e : Lib.byteCells (l ++ s) = Lib.byteCells l ++ Lib.strCells (bs s) := by simp [Lib.byteCells, Lib.strCells, bs]
 have HO2 := Lib.hid hown'
 have HE := Lib.hid e
 have HG := Lib.hid hgrow
 have HB2 := Lib.hid hb2
 clear hown' e hgrow hb2 hnn
 go_wp2
 go_ret2
 refine ⟨rfl, .inr ?_, ?_, ?_⟩
 ·exact Lib.BuilderAt.put (T := 93) (e := 5) hB HB2.out (bs' := Lib.byteCells (l ++ s)) (by rw [HE.out, List.length_append, Lib.strCells_length, bs_size]; exact HO2.out) (by decide)
 ·exact (HB1.out.grown HG.out (by have := HB1.out.size; omega) (fun k hk => (HO.out.lt k hk).1)).setCell (p := ⟨b, 1, none⟩) hB _
 ·exact (KO1.out.grown HG.out (bld_kind HO.out)).setCell ⟨b, 1, none⟩ rfl _
theorem Bld.alloc {w : World} {B b : Nat} {l : Bs} (h : Bld w B b l) (o : Obj) : Bld (w.alloc o) B b l := by
 have key : ∀ p, Lib.BuilderAt 93 5 B b p (Lib.byteCells l) w → Lib.BuilderAt 93 5 B b p (Lib.byteCells l) (w.alloc o) := fun p hp => by
  obtain ⟨h1, v, h2, h3, h4⟩ := hp
  exact ⟨h1, v, (Lib.alloc_old w o b (Array.getElem?_eq_some_iff.1 h2).1).trans h2, h3.alloc o, h4⟩
 rcases h with h | h
 ·exact .inl (key _ h)
 ·exact .inr (key _ h)
theorem Bld.keep {w w' : World} {B b : Nat} {l : Bs} (h : Bld w B b l) (hk : Keeps [] w w') : Bld w' B b l := by
 have key : ∀ p, Lib.BuilderAt 93 5 B b p (Lib.byteCells l) w → Lib.BuilderAt 93 5 B b p (Lib.byteCells l) w' := fun p hp => by
  obtain ⟨h1, v, h2, h3, h4⟩ := hp
  exact ⟨h1, v, (hk.block b (Array.getElem?_eq_some_iff.1 h2).1 (by simp)).trans h2, own_keep h3 hk (by simp), h4⟩
 rcases h with h | h
 ·exact .inl (key _ h)
 ·exact .inr (key _ h)
theorem Bld.lt {w : World} {B b : Nat} {l : Bs} (h : Bld w B b l) : b < w.heap.size := by
 rcases h with ⟨_, v, h2, _⟩ | ⟨_, v, h2, _⟩
 ·exact (Array.getElem?_eq_some_iff.1 h2).1
 ·exact (Array.getElem?_eq_some_iff.1 h2).1
theorem Bld.drew {w : World} {B b : Nat} {l : Bs} (h : Bld w B b l) : Bld w.drew B b l := h
theorem Keeps.under {w0 w w' : World} (hk : Keeps [] w0 w) (hb : Below w0.heap.size w w') : Keeps [] w0 w' :=
 ⟨hb.os.trans hk.os, hb.output.trans hk.output, Nat.le_trans hk.size hb.size, fun k h1 _ => (hb.block k h1).trans (hk.block k h1 (by simp))⟩
theorem Blk.beside {w w' : World} {g b : Nat} {t e : TypeId} {cs : Array Value} (h : Blk w g t cs) (hk : Lib.OthersKept e (some b) w w') (hg : g ≠ b) (ht : t ≠ e) : Blk w' g t cs :=
 hk g _ h (by simpa using hg) (fun c fz he => by injection he with _ h2; exact ht h2)
theorem bld_new (w : World) : Bld (w.alloc (.cells #[.pointer none, .slice none 0 0] 93)) w.heap.size w.heap.size [] := Lib.fresh_isBuilder _ _ w
end Go.Proofs.YtpfkjejknlkkoaaGreatDoor
