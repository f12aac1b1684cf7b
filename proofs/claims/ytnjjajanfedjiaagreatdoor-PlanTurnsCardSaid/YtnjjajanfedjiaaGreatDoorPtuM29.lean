/- ops.Cols, of every code but Join's; Group's by a contract given. ops.Cols: Distinct, Union, what fails; all together. slices.Concat at 61. -/
import Derived.Test.YtnjjajanfedjiaaGreatDoorPtuM27
import Derived.Test.YtnjjajanfedjiaaGreatDoorPtuM28
import Derived.Test.YtnjjajanfedjiaaGreatDoorPtuM23
set_option linter.unusedSimpArgs false
set_option linter.unusedVariables false
namespace Go.Proofs.YtnjjajanfedjiaaGreatDoor
open Go.RowKit Go.BigFrame
attribute [local go_sem] bs_size bs_extract bs_append bs_toList
attribute [local go_sem] KW.cell
theorem ColsOut.split {R : Except Int (List (List Cl))} {e : Ending} {w : World} (h : ColsOut R e w) : ∃ u v, e = .returned (.tuple #[u, v]) ∧ ColsOut R (.returned (.tuple #[u, v])) w := by
 cases R with
 | error x => exact ⟨_, _, h, rfl⟩
 | ok out =>
  obtain ⟨B, d, rfl, h1, h2⟩ := h
  exact ⟨_, _, rfl, B, d, rfl, h1, h2⟩
theorem RdHeads.first {w : World} {A : Option Addr} {ls : List (List Cl)} (h : RdHeads w A ls) (h0 : 0 < ls.length) (hl : ls.length ≤ 4294967296) : ∃ b o B d, A = some ⟨b, o, none⟩ ∧ b < w.heap.size ∧ w.cell? ⟨b, o, none⟩ = some (.slice B (ls.getD 0 []).length d) ∧ (ls.getD 0 []).length ≤ d ∧ Rd w [] 2 B (ls.getD 0 []).length (csCells (ls.getD 0 [])) := by
 obtain ⟨us, h1, h2, h3⟩ := h
 obtain ⟨b, o, rfl, _, hb, hc⟩ := h2.open' (by omega) (by omega)
 obtain ⟨B, d, hu, hd, hB⟩ := h3 0 (by omega) h0
 have hg : ls.getD 0 [] = ls[0] := by rw [List.getD_eq_getElem?_getD, List.getElem?_eq_getElem h0]; rfl
 refine ⟨b, o, B, d, rfl, hb, ?_, by rw [hg]; exact hd, by rw [hg]; exact hB⟩
 rw [hg, ← hu]
 exact hc 0 _ (List.getElem?_eq_getElem (by omega))
theorem RdHeads.second {w : World} {b o : Nat} {ls : List (List Cl)} (h : RdHeads w (some ⟨b, o, none⟩) ls) (h0 : 1 < ls.length) (hl : ls.length ≤ 4294967296) : ∃ B d, w.cell? ⟨b, o + 1, none⟩ = some (.slice B (ls.getD 1 []).length d) ∧ (ls.getD 1 []).length ≤ d ∧ Rd w [] 2 B (ls.getD 1 []).length (csCells (ls.getD 1 [])) := by
 obtain ⟨us, h1, h2, h3⟩ := h
 obtain ⟨b2, o2, he, _, hb, hc⟩ := h2.open' (by omega) (by omega)
 cases he
 obtain ⟨B, d, hu, hd, hB⟩ := h3 1 (by omega) h0
 have hg : ls.getD 1 [] = ls[1] := by rw [List.getD_eq_getElem?_getD, List.getElem?_eq_getElem h0]; rfl
 refine ⟨B, d, ?_, by rw [hg]; exact hd, by rw [hg]; exact hB⟩
 rw [hg, ← hu]
 exact hc 1 _ (List.getElem?_eq_getElem (by omega))
set_option maxHeartbeats 4000000 in
theorem cols_1 (at_ retry lk ln rk rn : Int) (outs js cols : List Bs) (op lc lw rc rw' : Bs) (Ao : Option Addr) (co : Nat) (Ai : Option Addr) (ni ci : Nat) (Ac : Option Addr) (cc : Nat) (ins : List (List Cl)) (AH : Option Addr) (ch : Nat) (w : World) (hH : RdHeads w AH ins) (hi : ins.length = 1) (ho : outs.length = 1)
  (hf : ∀ A d W, (ins.getD 0 []).length ≤ d → Rd w [] 2 A (ins.getD 0 []).length (csCells (ins.getD 0 [])) → Keeps [] w W → Calls Tryz.prog 96 #[jAgg (⟨at_, 1, outs, js, cols, op, ⟨lc, lk, ln, lw⟩, ⟨rc, rk, rn, rw'⟩, retry⟩ : Jb) Ao co Ai ni ci Ac cc, .slice A (ins.getD 0 []).length d] W fun e w' => ColsOut (comparedJ (⟨at_, 1, outs, js, cols, op, ⟨lc, lk, ln, lw⟩, ⟨rc, rk, rn, rw'⟩, retry⟩ : Jb) (ins.getD 0 [])) e w' ∧ Keeps [] W w') :
  Calls Tryz.prog 58 #[.agg #[.int .i64 at_, .int .i64 1, .slice Ao outs.length co, .slice Ai ni ci, .slice Ac cols.length cc, .string (bs op), .string (bs lc), .int .i64 lk, .int .i64 ln, .string (bs lw), .string (bs rc), .int .i64 rk, .int .i64 rn, .string (bs rw'), .int .i64 retry], .slice AH ins.length ch] w fun e w' => ColsOut (comparedJ (⟨at_, 1, outs, js, cols, op, ⟨lc, lk, ln, lw⟩, ⟨rc, rk, rn, rw'⟩, retry⟩ : Jb) (ins.getD 0 [])) e w' ∧ Keeps [] w w' := by
 obtain ⟨b, o, A, d, rfl, hb, hd0, hd, hA⟩ := hH.first (by omega) (by omega)
 have HF := Lib.hid (fun W => hf A d W hd hA)
 clear hf hA hH
 generalize comparedJ (⟨at_, 1, outs, js, cols, op, ⟨lc, lk, ln, lw⟩, ⟨rc, rk, rn, rw'⟩, retry⟩ : Jb) (ins.getD 0 []) = R at *
 have HF' : Hid (∀ W, Keeps [] w W → Calls Tryz.prog 96 #[.agg #[.int .i64 at_, .int .i64 1, .slice Ao outs.length co, .slice Ai ni ci, .slice Ac cols.length cc, .string (bs op), .string (bs lc), .int .i64 lk, .int .i64 ln, .string (bs lw), .string (bs rc), .int .i64 rk, .int .i64 rn, .string (bs rw'), .int .i64 retry], .slice A (ins.getD 0 []).length d] W fun e w' => ColsOut R e w' ∧ Keeps [] W w') := HF
 clear HF
 generalize (ins.getD 0 []).length = n at *
 have HS : Hid (∀ W, Calls Tryz.prog 95 #[.int .i64 1] W fun e W' => e = .returned (.tuple #[.int .i64 1, .int .i64 1]) ∧ W = W') := Lib.hid fun W => by
  have h := sizes_any 1 W
  rw [show sizesN 1 = (1, 1) by decide] at h
  exact h
 rw [hi]
 rw [ho] at HF' ⊢
 clear hi ho
 go_enter Tryz.func58, Tryz.ntmps58
 go_wp2_with (go_at_call 95; refine (HS.out _).mono ?_; rintro e w6 ⟨rfl, rfl⟩)
 refine (HF'.out _ ((Keeps.refl _ _).alloc _)).mono ?_
 rintro e w3 ⟨hco, hk3⟩
 obtain ⟨u, v, rfl, hco⟩ := hco.split
 have HCO := Lib.hid hco
 have HK3 := Lib.hid (((Keeps.refl _ _).alloc _).trans hk3)
 clear hk3 hco
 go_wp2
 go_ret2
 exact ⟨HCO.out, HK3.out⟩
set_option maxHeartbeats 4000000 in
theorem cols_9 (at_ retry lk ln rk rn : Int) (outs js cols : List Bs) (op lc lw rc rw' : Bs) (Ao : Option Addr) (co : Nat) (Ai : Option Addr) (ni ci : Nat) (Ac : Option Addr) (cc : Nat) (ins : List (List Cl)) (AH : Option Addr) (ch : Nat) (w : World) (hH : RdHeads w AH ins) (hi : ins.length = 1) (ho : outs.length = 2)
  (hf : ∀ A d W, (ins.getD 0 []).length ≤ d → Rd w [] 2 A (ins.getD 0 []).length (csCells (ins.getD 0 [])) → Keeps [] w W → Calls Tryz.prog 96 #[jAgg (⟨at_, 9, outs, js, cols, op, ⟨lc, lk, ln, lw⟩, ⟨rc, rk, rn, rw'⟩, retry⟩ : Jb) Ao co Ai ni ci Ac cc, .slice A (ins.getD 0 []).length d] W fun e w' => ColsOut (comparedJ (⟨at_, 9, outs, js, cols, op, ⟨lc, lk, ln, lw⟩, ⟨rc, rk, rn, rw'⟩, retry⟩ : Jb) (ins.getD 0 [])) e w' ∧ Keeps [] W w') :
  Calls Tryz.prog 58 #[.agg #[.int .i64 at_, .int .i64 9, .slice Ao outs.length co, .slice Ai ni ci, .slice Ac cols.length cc, .string (bs op), .string (bs lc), .int .i64 lk, .int .i64 ln, .string (bs lw), .string (bs rc), .int .i64 rk, .int .i64 rn, .string (bs rw'), .int .i64 retry], .slice AH ins.length ch] w fun e w' => ColsOut (comparedJ (⟨at_, 9, outs, js, cols, op, ⟨lc, lk, ln, lw⟩, ⟨rc, rk, rn, rw'⟩, retry⟩ : Jb) (ins.getD 0 [])) e w' ∧ Keeps [] w w' := by
 obtain ⟨b, o, A, d, rfl, hb, hd0, hd, hA⟩ := hH.first (by omega) (by omega)
 have HF := Lib.hid (fun W => hf A d W hd hA)
 clear hf hA hH
 generalize comparedJ (⟨at_, 9, outs, js, cols, op, ⟨lc, lk, ln, lw⟩, ⟨rc, rk, rn, rw'⟩, retry⟩ : Jb) (ins.getD 0 []) = R at *
 have HF' : Hid (∀ W, Keeps [] w W → Calls Tryz.prog 96 #[.agg #[.int .i64 at_, .int .i64 9, .slice Ao outs.length co, .slice Ai ni ci, .slice Ac cols.length cc, .string (bs op), .string (bs lc), .int .i64 lk, .int .i64 ln, .string (bs lw), .string (bs rc), .int .i64 rk, .int .i64 rn, .string (bs rw'), .int .i64 retry], .slice A (ins.getD 0 []).length d] W fun e w' => ColsOut R e w' ∧ Keeps [] W w') := HF
 clear HF
 generalize (ins.getD 0 []).length = n at *
 have HS : Hid (∀ W, Calls Tryz.prog 95 #[.int .i64 9] W fun e W' => e = .returned (.tuple #[.int .i64 1, .int .i64 2]) ∧ W = W') := Lib.hid fun W => by
  have h := sizes_any 9 W
  rw [show sizesN 9 = (1, 2) by decide] at h
  exact h
 rw [hi]
 rw [ho] at HF' ⊢
 clear hi ho
 go_enter Tryz.func58, Tryz.ntmps58
 go_wp2_with (go_at_call 95; refine (HS.out _).mono ?_; rintro e w6 ⟨rfl, rfl⟩)
 refine (HF'.out _ ((Keeps.refl _ _).alloc _)).mono ?_
 rintro e w3 ⟨hco, hk3⟩
 obtain ⟨u, v, rfl, hco⟩ := hco.split
 have HCO := Lib.hid hco
 have HK3 := Lib.hid (((Keeps.refl _ _).alloc _).trans hk3)
 clear hk3 hco
 go_wp2
 go_ret2
 exact ⟨HCO.out, HK3.out⟩
set_option maxHeartbeats 4000000 in
theorem cols_2 (at_ retry lk ln rk rn : Int) (outs js cols : List Bs) (op lc lw rc rw' : Bs) (Ao : Option Addr) (co : Nat) (Ai : Option Addr) (ni ci : Nat) (Ac : Option Addr) (cc : Nat) (ins : List (List Cl)) (AH : Option Addr) (ch : Nat) (w : World) (hH : RdHeads w AH ins) (hi : ins.length = 1) (ho : outs.length = 1)
  (hf : ∀ A d W, (ins.getD 0 []).length ≤ d → Rd w [] 2 A (ins.getD 0 []).length (csCells (ins.getD 0 [])) → Keeps [] w W → Calls Tryz.prog 97 #[jAgg (⟨at_, 2, outs, js, cols, op, ⟨lc, lk, ln, lw⟩, ⟨rc, rk, rn, rw'⟩, retry⟩ : Jb) Ao co Ai ni ci Ac cc, .slice A (ins.getD 0 []).length d] W fun e w' => ColsOut (setJ (⟨at_, 2, outs, js, cols, op, ⟨lc, lk, ln, lw⟩, ⟨rc, rk, rn, rw'⟩, retry⟩ : Jb) (ins.getD 0 [])) e w' ∧ Keeps [] W w') :
  Calls Tryz.prog 58 #[.agg #[.int .i64 at_, .int .i64 2, .slice Ao outs.length co, .slice Ai ni ci, .slice Ac cols.length cc, .string (bs op), .string (bs lc), .int .i64 lk, .int .i64 ln, .string (bs lw), .string (bs rc), .int .i64 rk, .int .i64 rn, .string (bs rw'), .int .i64 retry], .slice AH ins.length ch] w fun e w' => ColsOut (setJ (⟨at_, 2, outs, js, cols, op, ⟨lc, lk, ln, lw⟩, ⟨rc, rk, rn, rw'⟩, retry⟩ : Jb) (ins.getD 0 [])) e w' ∧ Keeps [] w w' := by
 obtain ⟨b, o, A, d, rfl, hb, hd0, hd, hA⟩ := hH.first (by omega) (by omega)
 have HF := Lib.hid (fun W => hf A d W hd hA)
 clear hf hA hH
 generalize setJ (⟨at_, 2, outs, js, cols, op, ⟨lc, lk, ln, lw⟩, ⟨rc, rk, rn, rw'⟩, retry⟩ : Jb) (ins.getD 0 []) = R at *
 have HF' : Hid (∀ W, Keeps [] w W → Calls Tryz.prog 97 #[.agg #[.int .i64 at_, .int .i64 2, .slice Ao outs.length co, .slice Ai ni ci, .slice Ac cols.length cc, .string (bs op), .string (bs lc), .int .i64 lk, .int .i64 ln, .string (bs lw), .string (bs rc), .int .i64 rk, .int .i64 rn, .string (bs rw'), .int .i64 retry], .slice A (ins.getD 0 []).length d] W fun e w' => ColsOut R e w' ∧ Keeps [] W w') := HF
 clear HF
 generalize (ins.getD 0 []).length = n at *
 have HS : Hid (∀ W, Calls Tryz.prog 95 #[.int .i64 2] W fun e W' => e = .returned (.tuple #[.int .i64 1, .int .i64 1]) ∧ W = W') := Lib.hid fun W => by
  have h := sizes_any 2 W
  rw [show sizesN 2 = (1, 1) by decide] at h
  exact h
 rw [hi]
 rw [ho] at HF' ⊢
 clear hi ho
 go_enter Tryz.func58, Tryz.ntmps58
 go_wp2_with (go_at_call 95; refine (HS.out _).mono ?_; rintro e w6 ⟨rfl, rfl⟩)
 refine (HF'.out _ ((Keeps.refl _ _).alloc _)).mono ?_
 rintro e w3 ⟨hco, hk3⟩
 obtain ⟨u, v, rfl, hco⟩ := hco.split
 have HCO := Lib.hid hco
 have HK3 := Lib.hid (((Keeps.refl _ _).alloc _).trans hk3)
 clear hk3 hco
 go_wp2
 go_ret2
 exact ⟨HCO.out, HK3.out⟩
set_option maxHeartbeats 4000000 in
theorem cols_3 (at_ retry lk ln rk rn : Int) (outs js cols : List Bs) (op lc lw rc rw' : Bs) (Ao : Option Addr) (co : Nat) (Ai : Option Addr) (ni ci : Nat) (Ac : Option Addr) (cc : Nat) (ins : List (List Cl)) (AH : Option Addr) (ch : Nat) (w : World) (hH : RdHeads w AH ins) (hi : ins.length = 1) (ho : outs.length = 1)
  (hf : ∀ A d W, (ins.getD 0 []).length ≤ d → Rd w [] 2 A (ins.getD 0 []).length (csCells (ins.getD 0 [])) → Keeps [] w W → Calls Tryz.prog 98 #[jAgg (⟨at_, 3, outs, js, cols, op, ⟨lc, lk, ln, lw⟩, ⟨rc, rk, rn, rw'⟩, retry⟩ : Jb) Ao co Ai ni ci Ac cc, .slice A (ins.getD 0 []).length d] W fun e w' => ColsOut (pickedJ (⟨at_, 3, outs, js, cols, op, ⟨lc, lk, ln, lw⟩, ⟨rc, rk, rn, rw'⟩, retry⟩ : Jb) (ins.getD 0 [])) e w' ∧ Keeps [] W w') :
  Calls Tryz.prog 58 #[.agg #[.int .i64 at_, .int .i64 3, .slice Ao outs.length co, .slice Ai ni ci, .slice Ac cols.length cc, .string (bs op), .string (bs lc), .int .i64 lk, .int .i64 ln, .string (bs lw), .string (bs rc), .int .i64 rk, .int .i64 rn, .string (bs rw'), .int .i64 retry], .slice AH ins.length ch] w fun e w' => ColsOut (pickedJ (⟨at_, 3, outs, js, cols, op, ⟨lc, lk, ln, lw⟩, ⟨rc, rk, rn, rw'⟩, retry⟩ : Jb) (ins.getD 0 [])) e w' ∧ Keeps [] w w' := by
 obtain ⟨b, o, A, d, rfl, hb, hd0, hd, hA⟩ := hH.first (by omega) (by omega)
 have HF := Lib.hid (fun W => hf A d W hd hA)
 clear hf hA hH
 generalize pickedJ (⟨at_, 3, outs, js, cols, op, ⟨lc, lk, ln, lw⟩, ⟨rc, rk, rn, rw'⟩, retry⟩ : Jb) (ins.getD 0 []) = R at *
 have HF' : Hid (∀ W, Keeps [] w W → Calls Tryz.prog 98 #[.agg #[.int .i64 at_, .int .i64 3, .slice Ao outs.length co, .slice Ai ni ci, .slice Ac cols.length cc, .string (bs op), .string (bs lc), .int .i64 lk, .int .i64 ln, .string (bs lw), .string (bs rc), .int .i64 rk, .int .i64 rn, .string (bs rw'), .int .i64 retry], .slice A (ins.getD 0 []).length d] W fun e w' => ColsOut R e w' ∧ Keeps [] W w') := HF
 clear HF
 generalize (ins.getD 0 []).length = n at *
 have HS : Hid (∀ W, Calls Tryz.prog 95 #[.int .i64 3] W fun e W' => e = .returned (.tuple #[.int .i64 1, .int .i64 1]) ∧ W = W') := Lib.hid fun W => by
  have h := sizes_any 3 W
  rw [show sizesN 3 = (1, 1) by decide] at h
  exact h
 rw [hi]
 rw [ho] at HF' ⊢
 clear hi ho
 go_enter Tryz.func58, Tryz.ntmps58
 go_wp2_with (go_at_call 95; refine (HS.out _).mono ?_; rintro e w6 ⟨rfl, rfl⟩)
 refine (HF'.out _ ((Keeps.refl _ _).alloc _)).mono ?_
 rintro e w3 ⟨hco, hk3⟩
 obtain ⟨u, v, rfl, hco⟩ := hco.split
 have HCO := Lib.hid hco
 have HK3 := Lib.hid (((Keeps.refl _ _).alloc _).trans hk3)
 clear hk3 hco
 go_wp2
 go_ret2
 exact ⟨HCO.out, HK3.out⟩
set_option maxHeartbeats 4000000 in
theorem cols_4 (at_ retry lk ln rk rn : Int) (outs js cols : List Bs) (op lc lw rc rw' : Bs) (Ao : Option Addr) (co : Nat) (Ai : Option Addr) (ni ci : Nat) (Ac : Option Addr) (cc : Nat) (ins : List (List Cl)) (AH : Option Addr) (ch : Nat) (w : World) (hH : RdHeads w AH ins) (hi : ins.length = 1) (ho : outs.length = 1)
  (hf : ∀ A d W, (ins.getD 0 []).length ≤ d → Rd w [] 2 A (ins.getD 0 []).length (csCells (ins.getD 0 [])) → Keeps [] w W → Calls Tryz.prog 98 #[jAgg (⟨at_, 4, outs, js, cols, op, ⟨lc, lk, ln, lw⟩, ⟨rc, rk, rn, rw'⟩, retry⟩ : Jb) Ao co Ai ni ci Ac cc, .slice A (ins.getD 0 []).length d] W fun e w' => ColsOut (pickedJ (⟨at_, 4, outs, js, cols, op, ⟨lc, lk, ln, lw⟩, ⟨rc, rk, rn, rw'⟩, retry⟩ : Jb) (ins.getD 0 [])) e w' ∧ Keeps [] W w') :
  Calls Tryz.prog 58 #[.agg #[.int .i64 at_, .int .i64 4, .slice Ao outs.length co, .slice Ai ni ci, .slice Ac cols.length cc, .string (bs op), .string (bs lc), .int .i64 lk, .int .i64 ln, .string (bs lw), .string (bs rc), .int .i64 rk, .int .i64 rn, .string (bs rw'), .int .i64 retry], .slice AH ins.length ch] w fun e w' => ColsOut (pickedJ (⟨at_, 4, outs, js, cols, op, ⟨lc, lk, ln, lw⟩, ⟨rc, rk, rn, rw'⟩, retry⟩ : Jb) (ins.getD 0 [])) e w' ∧ Keeps [] w w' := by
 obtain ⟨b, o, A, d, rfl, hb, hd0, hd, hA⟩ := hH.first (by omega) (by omega)
 have HF := Lib.hid (fun W => hf A d W hd hA)
 clear hf hA hH
 generalize pickedJ (⟨at_, 4, outs, js, cols, op, ⟨lc, lk, ln, lw⟩, ⟨rc, rk, rn, rw'⟩, retry⟩ : Jb) (ins.getD 0 []) = R at *
 have HF' : Hid (∀ W, Keeps [] w W → Calls Tryz.prog 98 #[.agg #[.int .i64 at_, .int .i64 4, .slice Ao outs.length co, .slice Ai ni ci, .slice Ac cols.length cc, .string (bs op), .string (bs lc), .int .i64 lk, .int .i64 ln, .string (bs lw), .string (bs rc), .int .i64 rk, .int .i64 rn, .string (bs rw'), .int .i64 retry], .slice A (ins.getD 0 []).length d] W fun e w' => ColsOut R e w' ∧ Keeps [] W w') := HF
 clear HF
 generalize (ins.getD 0 []).length = n at *
 have HS : Hid (∀ W, Calls Tryz.prog 95 #[.int .i64 4] W fun e W' => e = .returned (.tuple #[.int .i64 1, .int .i64 1]) ∧ W = W') := Lib.hid fun W => by
  have h := sizes_any 4 W
  rw [show sizesN 4 = (1, 1) by decide] at h
  exact h
 rw [hi]
 rw [ho] at HF' ⊢
 clear hi ho
 go_enter Tryz.func58, Tryz.ntmps58
 go_wp2_with (go_at_call 95; refine (HS.out _).mono ?_; rintro e w6 ⟨rfl, rfl⟩)
 refine (HF'.out _ ((Keeps.refl _ _).alloc _)).mono ?_
 rintro e w3 ⟨hco, hk3⟩
 obtain ⟨u, v, rfl, hco⟩ := hco.split
 have HCO := Lib.hid hco
 have HK3 := Lib.hid (((Keeps.refl _ _).alloc _).trans hk3)
 clear hk3 hco
 go_wp2
 go_ret2
 exact ⟨HCO.out, HK3.out⟩
set_option maxHeartbeats 4000000 in
theorem cols_8 (at_ retry lk ln rk rn : Int) (outs js cols : List Bs) (op lc lw rc rw' : Bs) (Ao : Option Addr) (co : Nat) (Ai : Option Addr) (ni ci : Nat) (Ac : Option Addr) (cc : Nat) (ins : List (List Cl)) (AH : Option Addr) (ch : Nat) (w : World) (hH : RdHeads w AH ins) (hi : ins.length = 1) (ho : outs.length = 1)
  (hf : ∀ A d W, (ins.getD 0 []).length ≤ d → Rd w [] 2 A (ins.getD 0 []).length (csCells (ins.getD 0 [])) → Keeps [] w W → Calls Tryz.prog 100 #[jAgg (⟨at_, 8, outs, js, cols, op, ⟨lc, lk, ln, lw⟩, ⟨rc, rk, rn, rw'⟩, retry⟩ : Jb) Ao co Ai ni ci Ac cc, .slice A (ins.getD 0 []).length d] W fun e w' => ColsOut (groupedJ (⟨at_, 8, outs, js, cols, op, ⟨lc, lk, ln, lw⟩, ⟨rc, rk, rn, rw'⟩, retry⟩ : Jb) (ins.getD 0 [])) e w' ∧ Keeps [] W w') :
  Calls Tryz.prog 58 #[.agg #[.int .i64 at_, .int .i64 8, .slice Ao outs.length co, .slice Ai ni ci, .slice Ac cols.length cc, .string (bs op), .string (bs lc), .int .i64 lk, .int .i64 ln, .string (bs lw), .string (bs rc), .int .i64 rk, .int .i64 rn, .string (bs rw'), .int .i64 retry], .slice AH ins.length ch] w fun e w' => ColsOut (groupedJ (⟨at_, 8, outs, js, cols, op, ⟨lc, lk, ln, lw⟩, ⟨rc, rk, rn, rw'⟩, retry⟩ : Jb) (ins.getD 0 [])) e w' ∧ Keeps [] w w' := by
 obtain ⟨b, o, A, d, rfl, hb, hd0, hd, hA⟩ := hH.first (by omega) (by omega)
 have HF := Lib.hid (fun W => hf A d W hd hA)
 clear hf hA hH
 generalize groupedJ (⟨at_, 8, outs, js, cols, op, ⟨lc, lk, ln, lw⟩, ⟨rc, rk, rn, rw'⟩, retry⟩ : Jb) (ins.getD 0 []) = R at *
 have HF' : Hid (∀ W, Keeps [] w W → Calls Tryz.prog 100 #[.agg #[.int .i64 at_, .int .i64 8, .slice Ao outs.length co, .slice Ai ni ci, .slice Ac cols.length cc, .string (bs op), .string (bs lc), .int .i64 lk, .int .i64 ln, .string (bs lw), .string (bs rc), .int .i64 rk, .int .i64 rn, .string (bs rw'), .int .i64 retry], .slice A (ins.getD 0 []).length d] W fun e w' => ColsOut R e w' ∧ Keeps [] W w') := HF
 clear HF
 generalize (ins.getD 0 []).length = n at *
 have HS : Hid (∀ W, Calls Tryz.prog 95 #[.int .i64 8] W fun e W' => e = .returned (.tuple #[.int .i64 1, .int .i64 1]) ∧ W = W') := Lib.hid fun W => by
  have h := sizes_any 8 W
  rw [show sizesN 8 = (1, 1) by decide] at h
  exact h
 rw [hi]
 rw [ho] at HF' ⊢
 clear hi ho
 go_enter Tryz.func58, Tryz.ntmps58
 go_wp2_with (go_at_call 95; refine (HS.out _).mono ?_; rintro e w6 ⟨rfl, rfl⟩)
 refine (HF'.out _ ((Keeps.refl _ _).alloc _)).mono ?_
 rintro e w3 ⟨hco, hk3⟩
 obtain ⟨u, v, rfl, hco⟩ := hco.split
 have HCO := Lib.hid hco
 have HK3 := Lib.hid (((Keeps.refl _ _).alloc _).trans hk3)
 clear hk3 hco
 go_wp2
 go_ret2
 exact ⟨HCO.out, HK3.out⟩
end Go.Proofs.YtnjjajanfedjiaaGreatDoor
namespace Go.Proofs.YtnjjajanfedjiaaGreatDoor
open Go.RowKit Go.BigFrame
attribute [local go_sem] bs_size bs_extract bs_append bs_toList
attribute [local go_sem] KW.cell
theorem size_alloc (w : World) (o : Obj) : (w.alloc o).heap.size = w.heap.size + 1 := by
 show (w.heap.push o).size = _
 simp
set_option maxHeartbeats 4000000 in
theorem cols_6 (at_ retry lk ln rk rn : Int) (outs _js cols : List Bs) (op lc lw rc rw' : Bs) (Ao : Option Addr) (co : Nat) (Ai : Option Addr) (ni ci : Nat) (Ac : Option Addr) (cc : Nat) (ins : List (List Cl)) (AH : Option Addr) (ch : Nat) (w : World) (hH : RdHeads w AH ins) (hi : ins.length = 1) (ho : outs.length = 1) :
  Calls Tryz.prog 58 #[.agg #[.int .i64 at_, .int .i64 6, .slice Ao outs.length co, .slice Ai ni ci, .slice Ac cols.length cc, .string (bs op), .string (bs lc), .int .i64 lk, .int .i64 ln, .string (bs lw), .string (bs rc), .int .i64 rk, .int .i64 rn, .string (bs rw'), .int .i64 retry], .slice AH ins.length ch] w fun e w' => ColsOut (.ok [ins.getD 0 []]) e w' ∧ Keeps [] w w' := by
 obtain ⟨b, o, A, d, rfl, hb, hd0, hd, hA⟩ := hH.first (by omega) (by omega)
 clear hH
 have HS : Hid (∀ W, Calls Tryz.prog 95 #[.int .i64 6] W fun e W' => e = .returned (.tuple #[.int .i64 1, .int .i64 1]) ∧ W = W') := Lib.hid fun W => by
  have h := sizes_any 6 W
  rw [show sizesN 6 = (1, 1) by decide] at h
  exact h
 rw [hi, ho]
 clear hi ho
 have HA := Lib.hid hA
 have HD := Lib.hid hd
 generalize ins.getD 0 [] = l at *
 clear hA hd
 have HK0 : Hid (Keeps [] w (w.alloc (.cells #[.int .i64 at_, .int .i64 6, .slice Ao 1 co, .slice Ai ni ci, .slice Ac cols.length cc, .string (bs op), .string (bs lc), .int .i64 lk, .int .i64 ln, .string (bs lw), .string (bs rc), .int .i64 rk, .int .i64 rn, .string (bs rw'), .int .i64 retry] 45))) := Lib.hid ((Keeps.refl _ _).alloc _)
 have HRO := Lib.hid (heads_one (HA.out.keep HK0.out) HD.out 59)
 rw [size_alloc] at HRO
 go_enter Tryz.func58, Tryz.ntmps58
 go_wp2_with (go_at_call 95; refine (HS.out _).mono ?_; rintro e w6 ⟨rfl, rfl⟩)
 go_ret2
 exact ⟨⟨_, _, rfl, Nat.le_refl _, HRO.out⟩, HK0.out.alloc _⟩
set_option maxHeartbeats 4000000 in
theorem cols_5 (at_ retry lk ln rk rn : Int) (outs _js cols : List Bs) (op lc lw rc rw' : Bs) (Ao : Option Addr) (co : Nat) (Ai : Option Addr) (ni ci : Nat) (Ac : Option Addr) (cc : Nat) (ins : List (List Cl)) (AH : Option Addr) (ch : Nat) (w : World) (hH : RdHeads w AH ins) (hll : ∀ l ∈ ins, l.length ≤ 4294967296) (hi : ins.length = 2) (ho : outs.length = 1) :
  Calls Tryz.prog 58 #[.agg #[.int .i64 at_, .int .i64 5, .slice Ao outs.length co, .slice Ai ni ci, .slice Ac cols.length cc, .string (bs op), .string (bs lc), .int .i64 lk, .int .i64 ln, .string (bs lw), .string (bs rc), .int .i64 rk, .int .i64 rn, .string (bs rw'), .int .i64 retry], .slice AH ins.length ch] w fun e w' => ColsOut (if ins.getD 0 [] ≠ ins.getD 1 [] then .error 13 else .ok [ins.getD 0 []]) e w' ∧ Keeps [] w w' := by
 obtain ⟨b, o, A, d, rfl, hb, hd0, hd, hA⟩ := hH.first (by omega) (by omega)
 obtain ⟨B, dB, hd1, hdB, hB⟩ := hH.second (by omega) (by omega)
 clear hH
 have hl0 : (ins.getD 0 []).length ≤ 4294967296 := hll _ (by rw [List.getD_eq_getElem?_getD, List.getElem?_eq_getElem (by omega)]; exact List.getElem_mem _)
 have hl1 : (ins.getD 1 []).length ≤ 4294967296 := hll _ (by rw [List.getD_eq_getElem?_getD, List.getElem?_eq_getElem (by omega)]; exact List.getElem_mem _)
 have HS : Hid (∀ W, Calls Tryz.prog 95 #[.int .i64 5] W fun e W' => e = .returned (.tuple #[.int .i64 2, .int .i64 1]) ∧ W = W') := Lib.hid fun W => by
  have h := sizes_any 5 W
  rw [show sizesN 5 = (2, 1) by decide] at h
  exact h
 rw [hi, ho]
 clear hi ho hll
 have HEQ := Lib.hid (fun W (q : Keeps [] w W) => equalC_any (ins.getD 0 []) (ins.getD 1 []) A B d dB W (hA.keep q) (hB.keep q) hl0 hl1)
 have HA := Lib.hid hA
 have HD := Lib.hid hd
 generalize ins.getD 0 [] = l at *
 generalize ins.getD 1 [] = m at *
 clear hA hd hB hl0 hl1 hdB
 have HK0 : Hid (Keeps [] w (w.alloc (.cells #[.int .i64 at_, .int .i64 5, .slice Ao 1 co, .slice Ai ni ci, .slice Ac cols.length cc, .string (bs op), .string (bs lc), .int .i64 lk, .int .i64 ln, .string (bs lw), .string (bs rc), .int .i64 rk, .int .i64 rn, .string (bs rw'), .int .i64 retry] 45))) := Lib.hid ((Keeps.refl _ _).alloc _)
 by_cases heq : l = m
 ·rw [decide_eq_true heq] at HEQ
  rw [if_neg (fun h => h heq)]
  clear heq
  go_enter Tryz.func58, Tryz.ntmps58
  go_wp2_with (go_at_call 95; refine (HS.out _).mono ?_; rintro e w6 ⟨rfl, rfl⟩)
  refine (HEQ.out _ HK0.out).mono ?_
  rintro e w3 ⟨rfl, hk3⟩
  have HK3 := Lib.hid (HK0.out.trans hk3)
  clear hk3
  have HRO := Lib.hid (heads_one (HA.out.keep HK3.out) HD.out 59)
  go_wp2
  go_ret2
  exact ⟨⟨_, _, rfl, Nat.le_refl _, HRO.out⟩, HK3.out.alloc _⟩
 ·rw [decide_eq_false heq] at HEQ
  rw [if_pos heq]
  clear heq
  go_enter Tryz.func58, Tryz.ntmps58
  go_wp2_with (go_at_call 95; refine (HS.out _).mono ?_; rintro e w6 ⟨rfl, rfl⟩)
  refine (HEQ.out _ HK0.out).mono ?_
  rintro e w3 ⟨rfl, hk3⟩
  have HK3 := Lib.hid (HK0.out.trans hk3)
  clear hk3
  go_wp2
  go_ret2
  exact ⟨rfl, HK3.out⟩
set_option maxHeartbeats 4000000 in
theorem cols_bad (at_ code retry lk ln rk rn : Int) (outs _js cols : List Bs) (op lc lw rc rw' : Bs) (Ao : Option Addr) (co : Nat) (Ai : Option Addr) (ni ci : Nat) (Ac : Option Addr) (cc : Nat) (ins : List (List Cl)) (AH : Option Addr) (ch : Nat) (w : World) (hbad : (sizesN code).1 = 0 ∨ ins.length ≠ (sizesN code).1 ∨ outs.length ≠ (sizesN code).2) :
  Calls Tryz.prog 58 #[.agg #[.int .i64 at_, .int .i64 code, .slice Ao outs.length co, .slice Ai ni ci, .slice Ac cols.length cc, .string (bs op), .string (bs lc), .int .i64 lk, .int .i64 ln, .string (bs lw), .string (bs rc), .int .i64 rk, .int .i64 rn, .string (bs rw'), .int .i64 retry], .slice AH ins.length ch] w fun e w' => ColsOut (.error 1) e w' ∧ Keeps [] w w' := by
 have HS := Lib.hid (fun W => sizes_any code W)
 generalize sizesN code = s at *
 obtain ⟨s1, s2⟩ := s
 simp only at hbad HS
 have hto : ∃ b1 b2 b3, ((s1 : Int) == 0) = b1 ∧ ((ins.length : Int) != (s1 : Int)) = b2 ∧ ((outs.length : Int) != (s2 : Int)) = b3 ∧ (b1 = true ∨ b2 = true ∨ b3 = true) := ⟨_, _, _, rfl, rfl, rfl, by
  rcases hbad with h | h | h
  ·exact .inl (by rw [h]; rfl)
  ·exact .inr (.inl (by rw [bne_iff_ne]; omega))
  ·exact .inr (.inr (by rw [bne_iff_ne]; omega))⟩
 obtain ⟨b1, b2, b3, t1, t2, t3, hbb⟩ := hto
 clear hbad
 have hway : (b1 = true) ∨ (b1 = false ∧ b2 = true) ∨ (b1 = false ∧ b2 = false ∧ b3 = true) := by
  cases b1 <;> cases b2 <;> cases b3 <;> simp at hbb ⊢
 clear hbb
 rcases hway with rfl | ⟨rfl, rfl⟩ | ⟨rfl, rfl, rfl⟩
 all_goals
  go_enter Tryz.func58, Tryz.ntmps58
  go_wp2_with (go_at_call 95; refine (HS.out _).mono ?_; rintro e w6 ⟨rfl, rfl⟩)
  go_ret2
  exact ⟨rfl, (Keeps.refl _ _).alloc _⟩
theorem sizes_pos {code : Int} (h : (sizesN code).1 ≠ 0) : code = 5 ∨ code = 7 ∨ code = 9 ∨ code = 1 ∨ code = 2 ∨ code = 3 ∨ code = 4 ∨ code = 6 ∨ code = 8 := by
 unfold sizesN at h
 split at h
 ·omega
 ·split at h
  ·omega
  ·split at h
   ·omega
   ·exact absurd rfl h
set_option maxHeartbeats 1000000 in
theorem cols_any (j : Jb) (Ao : Option Addr) (co : Nat) (Ai : Option Addr) (ni ci : Nat) (Ac : Option Addr) (cc : Nat) (ins : List (List Cl)) (AH : Option Addr) (ch : Nat) (w : World) (hE : CEnv w) (hJ : JobIn w j Ao co Ac cc) (hH : RdHeads w AH ins) (hll : ∀ l ∈ ins, l.length ≤ 4294967296) (h7 : j.code ≠ 7)
  (h8 : j.code = 8 → ∀ A d W, (ins.getD 0 []).length ≤ d → Rd w [] 2 A (ins.getD 0 []).length (csCells (ins.getD 0 [])) → Keeps [] w W → Calls Tryz.prog 100 #[jAgg j Ao co Ai ni ci Ac cc, .slice A (ins.getD 0 []).length d] W fun e w' => ColsOut (groupedJ j (ins.getD 0 [])) e w' ∧ Keeps [] W w') :
  Calls Tryz.prog 58 #[jAgg j Ao co Ai ni ci Ac cc, .slice AH ins.length ch] w fun e w' => ColsOut (colsJ j ins) e w' ∧ Keeps [] w w' := by
 unfold colsJ
 by_cases hbad : (sizesN j.code).1 = 0 ∨ ins.length ≠ (sizesN j.code).1 ∨ j.outs.length ≠ (sizesN j.code).2
 ·rw [if_pos hbad]
  obtain ⟨at_, code, outs, js, cols, op, ⟨lc, lk, ln, lw⟩, ⟨rc, rk, rn, rw'⟩, retry⟩ := j
  exact cols_bad _ _ _ _ _ _ _ _ js _ _ _ _ _ _ _ _ _ _ _ _ _ _ _ _ _ hbad
 ·rw [if_neg hbad]
  have h0 : (sizesN j.code).1 ≠ 0 := fun h => hbad (.inl h)
  have hi : ins.length = (sizesN j.code).1 := Decidable.byContradiction fun h => hbad (.inr (.inl h))
  have ho : j.outs.length = (sizesN j.code).2 := Decidable.byContradiction fun h => hbad (.inr (.inr h))
  have hl0 : (ins.getD 0 []).length ≤ 4294967296 := hll _ (by rw [List.getD_eq_getElem?_getD, List.getElem?_eq_getElem (by omega)]; exact List.getElem_mem _)
  have hcp := fun A d W (h1 : (ins.getD 0 []).length ≤ d) (h2 : Rd w [] 2 A (ins.getD 0 []).length (csCells (ins.getD 0 []))) (q : Keeps [] w W) => compared_any j (ins.getD 0 []) Ao co Ai ni ci Ac cc A d W (hE.quiet q) (h2.keep q) h1 hl0
  have hst := fun A d W (h1 : (ins.getD 0 []).length ≤ d) (h2 : Rd w [] 2 A (ins.getD 0 []).length (csCells (ins.getD 0 []))) (q : Keeps [] w W) => set_any j (ins.getD 0 []) Ao co Ai ni ci Ac cc A d W (hJ.quiet q) (h2.keep q) h1 hl0
  have hpk := fun A d W (h1 : (ins.getD 0 []).length ≤ d) (h2 : Rd w [] 2 A (ins.getD 0 []).length (csCells (ins.getD 0 []))) (q : Keeps [] w W) => picked_any j (ins.getD 0 []) Ao co Ai ni ci Ac cc A d W (hJ.quiet q) (h2.keep q) h1 hl0
  have hcase := sizes_pos h0
  clear hbad h0 hE hJ
  obtain ⟨at_, code, outs, js, cols, op, ⟨lc, lk, ln, lw⟩, ⟨rc, rk, rn, rw'⟩, retry⟩ := j
  simp only at h7 h8 hi ho hcase ⊢
  rcases hcase with rfl | rfl | rfl | rfl | rfl | rfl | rfl | rfl | rfl
  ·exact cols_5 at_ retry lk ln rk rn outs js cols op lc lw rc rw' Ao co Ai ni ci Ac cc ins AH ch w hH hll hi ho
  ·exact absurd rfl h7
  ·exact cols_9 at_ retry lk ln rk rn outs js cols op lc lw rc rw' Ao co Ai ni ci Ac cc ins AH ch w hH hi ho hcp
  ·exact cols_1 at_ retry lk ln rk rn outs js cols op lc lw rc rw' Ao co Ai ni ci Ac cc ins AH ch w hH hi ho hcp
  ·exact cols_2 at_ retry lk ln rk rn outs js cols op lc lw rc rw' Ao co Ai ni ci Ac cc ins AH ch w hH hi ho hst
  ·exact cols_3 at_ retry lk ln rk rn outs js cols op lc lw rc rw' Ao co Ai ni ci Ac cc ins AH ch w hH hi ho hpk
  ·exact cols_4 at_ retry lk ln rk rn outs js cols op lc lw rc rw' Ao co Ai ni ci Ac cc ins AH ch w hH hi ho hpk
  ·exact cols_6 at_ retry lk ln rk rn outs js cols op lc lw rc rw' Ao co Ai ni ci Ac cc ins AH ch w hH hi ho
  ·exact cols_8 at_ retry lk ln rk rn outs js cols op lc lw rc rw' Ao co Ai ni ci Ac cc ins AH ch w hH hi ho (h8 rfl)
end Go.Proofs.YtnjjajanfedjiaaGreatDoor
namespace Go.Proofs.YtnjjajanfedjiaaGreatDoor
open Go.RowKit
attribute [local go_sem] bs_size bs_extract bs_append bs_toList
theorem catCinfo : (Tryz.prog.info? 61).map (fun i => (i.zero, i.size, i.bytes)) = some (some (.agg #[.string ⟨#[]⟩, .int .i64 0]), 2, 24) := by kernel_rfl
set_option maxHeartbeats 2000000 in
set_option maxRecDepth 100000 in
theorem growC_any (n : Nat) (hn : n ≤ 4294967296) (w : World) :
  Calls Tryz.prog 171 #[.slice none 0 0, .int .i64 (n : Int)] w fun e w' => (∃ v, e = .returned v ∧ w'.ownsRow w.heap.size 61 2 v 0 []) ∧ Keeps [] w w' := by
 by_cases h0 : n = 0
 ·subst h0
  go_enter Tryz.func171, Tryz.ntmps171
  go_wp2
  go_ret
  exact ⟨⟨_, rfl, World.ownsRow_nil _ _ _ _⟩, Keeps.refl _ _⟩
 ·obtain ⟨i0, hi, hz0, hz1, hz2⟩ := info_parts catCinfo
  have hrz := Lib.run_append_grow_zeros w 59 3 59 61 i0 _ .i64 .i64 Tryz.underlying59 Tryz.underlying3 hi hz0 none 0 0 [] (run_firstCells_none w.drew _ 0 0 0) n (by omega) (by rw [hz1]; decide) (by omega) (by omega) (by rw [hz2]; omega) (growslice_fits (by omega) (by rw [hz2]; omega))
  have hG : grownCap w (0 + n) 0 61 ≤ maxLen := grownCap_le_maxLen w (0 + n) 0 61 (by unfold maxLen; omega)
  have hGn : 0 + n ≤ grownCap w (0 + n) 0 61 := grownCap_ge w _ _ _
  rw [Nat.zero_add] at hrz hG hGn
  obtain ⟨G, hGG⟩ : ∃ G, grownCap w n 0 61 = G := ⟨_, rfl⟩
  rw [hGG] at hrz hG hGn
  obtain ⟨cs, hcs⟩ : ∃ cs, (([] : List Value).toArray ++ Builtin.zeroCells (.agg #[.string ⟨#[]⟩, .int .i64 0] : Value).cells n ++ Builtin.zeroCells (.agg #[.string ⟨#[]⟩, .int .i64 0] : Value).cells (G - n)) = cs := ⟨_, rfl⟩
  rw [hcs] at hrz
  have hsz : cs.size = G * 2 := by
   rw [← hcs]
   simp [Builtin.zeroCells, Value.cells]
   omega
  have HZ := Lib.hid (zeros_own (w := w.drew) (e := 61) (size := 2) hsz hG)
  have HRZ := Lib.hid hrz
  have h1 : ¬ ((n : Int) < 0) := by omega
  have h4 : (0 : Int) < (n : Int) := by omega
  have hm1 : G ≤ 9223372036854775807 := by unfold maxLen at hG; omega
  clear hrz hcs hsz hGG hi hz0 hz1 hz2
  go_enter Tryz.func171, Tryz.ntmps171
  go_wp2_with (at_builtin; refine Lib.wpList_append_run _ rfl _ _ _ _ rfl _ _ rfl rfl _ _ HRZ.out ?_)
  go_ret
  exact ⟨⟨_, rfl, HZ.out⟩, ((Keeps.refl [] w).drew).alloc _⟩
set_option maxHeartbeats 2000000 in
set_option maxRecDepth 40000 in
theorem concatC_any (ss : List (Nat × List Value)) (us : List Value) (A0 : Option Addr) (k0 : Nat) (w : World) (hus : us.length = ss.length) (hB : Rd w [] 1 A0 ss.length us) (hu : ∀ i (h : i < us.length) (h' : i < ss.length), SlIn w 2 us[i] ss[i]) (hl : ss.length ≤ 4294967296) (htot : totN ss ss.length ≤ 4294967296) (hone : ∀ p ∈ ss, ∀ x ∈ p.2, x.oneCell' = true) :
  Calls Tryz.prog 139 #[.slice A0 ss.length k0] w fun e w' => (∃ v, e = .returned v ∧ w'.ownsRow w.heap.size 61 2 v (totN ss ss.length) (catV ss ss.length)) ∧ Keeps [] w w' := by
 obtain ⟨ie, hie, hez0, hez1, hez2⟩ := info_parts catCinfo
 have HB := Lib.hid hB
 have HU := Lib.hid hu
 have HUS := Lib.hid hus
 have HTL := Lib.hid (fun m (h : m ≤ ss.length) => Nat.le_trans (totN_le ss h) htot)
 have HON := Lib.hid hone
 have HGR := Lib.hid (growC_any (totN ss ss.length) htot w)
 clear hB hu hone hus htot
 go_enter Tryz.func139, Tryz.ntmps139
 go_wp2
 go_loop [3, 11] (fun s i => ∃ m : Nat, m ≤ ss.length ∧ i = .int .i64 m ∧ s = .int .i64 (totN ss m : Nat)) (fun _ i => ss.length - (intOf i).toNat)
 case atStart => exact ⟨0, Nat.zero_le _, rfl, rfl⟩
 case round =>
  obtain ⟨m, hm, rfl, rfl⟩ := hrel
  by_cases hlt : m < ss.length
  ·obtain ⟨b, o, rfl, _, hb, hc⟩ := HB.out.open' (by omega) (by omega)
   have hux : m < us.length := by rw [HUS.out]; exact hlt
   have d1 := hc m _ (List.getElem?_eq_getElem hux)
   obtain ⟨A, c, he, hr⟩ := HU.out m hux hlt
   rw [he] at d1
   have HS := Lib.hid (totN_succ ss m hlt)
   have hle := HTL.out (m + 1) (by omega)
   rw [HS.out] at hle
   clear hc he hr
   generalize totN ss m = a at *
   generalize ss[m].1 = n at *
   have hneg : ¬ ((a : Int) + (n : Int) < 0) := by omega
   go_wp2
   go_round
   case rel => exact ⟨m + 1, by omega, by go_num, by rw [HS.out]; go_num⟩
   case measure => simp [intOf]; omega
  ·obtain rfl : m = ss.length := by omega
   go_wp2_with fail
   refine HGR.out.mono ?_
   rintro e w2 ⟨⟨v0, rfl, ho0⟩, hk0⟩
   have HO0 := Lib.hid ho0
   have HK0 := Lib.hid hk0
   clear ho0 hk0 HGR
   go_wp2
   go_loopw [6, 27] (fun u i wx => ∃ (m : Nat) (v : Value), v = u ∧ m ≤ ss.length ∧ i = .int .i64 m ∧ wx.ownsRow w.heap.size 61 2 v (totN ss m) (catV ss m) ∧ Keeps [] w wx) (fun _ i _ => ss.length - (intOf i).toNat)
   case atStart => exact ⟨0, v0, rfl, Nat.zero_le _, rfl, HO0.out, HK0.out⟩
   case round =>
    obtain ⟨m, v, rfl, hm2, rfl, hown, hk⟩ := hrel
    have HK := Lib.hid hk
    have HO := Lib.hid hown
    clear hk hown
    by_cases hlt : m < ss.length
    ·obtain ⟨b, o, rfl, _, hb, hc⟩ := (HB.out.keep HK.out).open' (by omega) (by omega)
     have hux : m < us.length := by rw [HUS.out]; exact hlt
     have d1 := hc m _ (List.getElem?_eq_getElem hux)
     obtain ⟨A, c, he, hr⟩ := HU.out m hux hlt
     rw [he] at d1
     have hle := HTL.out (m + 1) (by omega)
     rw [totN_succ ss m hlt] at hle
     obtain ⟨v', w', hrun, ho', hg'⟩ := run_append_rd (P := Tryz.prog) wr w.heap.size 59 59 61 ie _ 2 24 Tryz.underlying59 hie hez0 hez1 hez2 rfl (by decide) HO.out (hr.keep HK.out) c (HON.out _ (List.getElem_mem hlt)) (by unfold maxLen; omega) (by omega) HK.out.size
     have HRUN := Lib.hid hrun
     have HO' : Hid (w'.ownsRow w.heap.size 61 2 v' (totN ss (m + 1)) (catV ss (m + 1))) := Lib.hid (by rw [totN_succ ss m hlt, catV_succ ss m hlt]; exact ho')
     have HK' := Lib.hid (HK.out.grown hg' (fun g hg => .inr (HO.out.lt g hg).1))
     clear hc he hr hrun ho' hg' hle
     generalize ss[m].1 = n at *
     go_wp2_with (at_builtin; refine Lib.wpList_append_run _ rfl _ _ _ _ rfl _ _ rfl rfl _ _ HRUN.out ?_)
     go_roundw
     case rel => exact ⟨m + 1, v', rfl, by omega, by go_num, HO'.out, HK'.out⟩
     case measure => simp [intOf]; omega
    ·obtain rfl : m = ss.length := by omega
     go_wp2
     go_ret
     exact ⟨⟨_, rfl, HO.out⟩, HK.out⟩
end Go.Proofs.YtnjjajanfedjiaaGreatDoor
