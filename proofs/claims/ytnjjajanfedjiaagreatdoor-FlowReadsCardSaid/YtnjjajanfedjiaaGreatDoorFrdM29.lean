/- A job's text. A job's text, whatever its code. Slices of whatever elements in memory: one of them. -/
import Derived.Test.YtnjjajanfedjiaaGreatDoorFrdM13
import Derived.Test.YtnjjajanfedjiaaGreatDoorFrdM28
import Derived.Test.YtnjjajanfedjiaaGreatDoorShTab
import Derived.Test.YtnjjajanfedjiaaGreatDoorFrdM3
set_option linter.unusedSimpArgs false
set_option linter.unusedVariables false
namespace Go.Proofs.YtnjjajanfedjiaaGreatDoor
open Go.RowKit Go.BigFrame
attribute [local go_sem] bs_size bs_extract bs_append bs_toList KW.cell
theorem bs_lt0 (a : Bs) : bs a ++ ⟨#[46]⟩ = bs (a ++ [46]) := bs_append a [46]
theorem bs_lt1 (a : Bs) : bs a ++ ⟨#[44, 32]⟩ = bs (a ++ [44, 32]) := bs_append a [44, 32]
theorem bs_lt2 (a : Bs) : bs a ++ ⟨#[32]⟩ = bs (a ++ [32]) := bs_append a [32]
theorem bs_lt3 (a : Bs) : bs a ++ ⟨#[32, 119, 104, 101, 114, 101, 32]⟩ = bs (a ++ [32, 119, 104, 101, 114, 101, 32]) := bs_append a [32, 119, 104, 101, 114, 101, 32]
theorem bs_lt4 (a : Bs) : bs a ++ ⟨#[58, 32]⟩ = bs (a ++ [58, 32]) := bs_append a [58, 32]
theorem bs_lt5 (a : Bs) : bs a ++ ⟨#[32, 61, 32]⟩ = bs (a ++ [32, 61, 32]) := bs_append a [32, 61, 32]
theorem bs_lt6 (a : Bs) : bs a ++ ⟨#[32, 98, 121, 32]⟩ = bs (a ++ [32, 98, 121, 32]) := bs_append a [32, 98, 121, 32]
attribute [local go_sem] bs_lt0 bs_lt1 bs_lt2 bs_lt3 bs_lt4 bs_lt5 bs_lt6
def ArW (a : Ar) : Prop := numOk a.val.num ∧ a.val.word.length ≤ 1000000000
def arV (a : Ar) : Value := .agg #[.string (bs a.col), .int .i64 a.val.kind, .int .i64 a.val.num, .string (bs a.val.word)]
set_option maxRecDepth 100000 in
set_option maxHeartbeats 1000000 in
theorem argText_any (a : Ar) (ha : ArW a) (w : World) (hE : FEnv w) :
  Calls Tryz.prog 41 #[arV a] w fun e w' => e = .returned (.string (bs (argT a))) ∧ Keeps [] w w' := by
 obtain ⟨s, v⟩ := a
 obtain ⟨k, n, u⟩ := v
 show Calls _ _ #[.agg #[.string (bs s), .int .i64 k, .int .i64 n, .string (bs u)]] w _
 have HV := Lib.hid (fun W hW => value_p10 ⟨k, n, u⟩ ha.1 ha.2 W (FEnv.p10 hW))
 have HE := Lib.hid hE
 clear hE ha
 by_cases h : s = []
 ·have HT : Hid (argT ⟨s, ⟨k, n, u⟩⟩ = valueL ⟨k, n, u⟩) := Lib.hid (if_pos h)
  subst h
  go_enter Tryz.func41, Tryz.ntmps41
  go_wp2_with fail
  refine (HV.out _ (HE.out.quiet ((Keeps.refl _ _).alloc _))).mono ?_
  rintro e w' ⟨rfl, hk⟩
  go_wp2
  go_ret
  exact ⟨by rw [HT.out]; rfl, ((Keeps.refl _ _).alloc _).trans hk⟩
 ·have HT : Hid (argT ⟨s, ⟨k, n, u⟩⟩ = s) := Lib.hid (if_neg h)
  have h1 : List.isEmpty s = false := by
   cases s with
   | nil => exact absurd rfl h
   | cons c t => rfl
  clear h
  go_enter Tryz.func41, Tryz.ntmps41
  go_wp2
  go_ret
  exact ⟨by rw [HT.out]; rfl, (Keeps.refl _ _).alloc _⟩
theorem joinS_any (l : List Bs) (hne : l ≠ []) (hl : l.length ≤ 1000000) (hlen : (joinCm l).length ≤ 1000000000) (A : Option Addr) (c : Nat) (w : World) (base : Nat) (h : w.ownsRow base 9 1 (.slice A l.length c) l.length (strs l)) :
  Calls Tryz.prog 42 #[.slice A l.length c, .string (bs [44, 32])] w fun e w' => e = .returned (.string (bs (joinCm l))) ∧ Keeps [] w w' := by
 obtain ⟨A', c', e, hx⟩ := own_form h
 injection e with e1 e2 e3
 subst e1 e3
 obtain ⟨g, rfl, hg, hx⟩ := hx (by cases l with
  | nil => exact absurd rfl hne
  | cons a t => simp)
 have hcp : l.length ≤ c := by
  rcases h.2 with ⟨h1, _⟩ | ⟨_, _, _, h1, _, _, h2, _⟩
  ·cases h1
  ·injection h1 with _ _ h1; rw [h1]; exact h2
 have hml : (l.map bs).length = l.length := by simp
 have hmm : (l.map bs).map (·.data.toList) = l := by
  rw [List.map_map]
  exact (List.map_congr_left (fun a _ => rfl)).trans (List.map_id l)
 have HJ := Tryz.strings_Join g 0 c (l.map bs) (bs [44, 32]) w (fun j x hx' => by
  rw [Nat.zero_add]
  refine hx j _ ?_
  unfold strs
  rw [List.getElem?_map]
  rw [List.getElem?_map] at hx'
  cases hr : l[j]? with
  | none => rw [hr] at hx'; cases hx'
  | some y => rw [hr] at hx'; cases hx'; rfl) hg (by rw [hml]; omega) (by rw [hml]; exact hcp) (by
   rw [hmm]
   exact Nat.le_trans hlen (by decide))
 rw [hml, hmm] at HJ
 exact HJ.mono fun e w' ⟨h1, h2⟩ => ⟨h1, (Keeps.refl [] w).under h2⟩
set_option maxRecDepth 100000 in
set_option maxHeartbeats 4000000 in
theorem text_7 (at_ : Int) (outs : List Bs) (a0 a1 d0 d1 : Bs) (op : Bs) (left right : Ar) (retry : Int) (base : Nat) (v2 v3 v4 : Value) (w : World) (hE : FEnv w) (hl : ArW left) (hr : ArW right) (hlen : a0.length ≤ 1000000 ∧ a1.length ≤ 1000000 ∧ d0.length ≤ 1000000 ∧ d1.length ≤ 1000000 ∧ op.length ≤ 1000000 ∧ left.col.length ≤ 1000000 ∧ (argT left).length ≤ 1000000 ∧ (argT right).length ≤ 1000000) (h : JRows w base ⟨at_, 7, outs, [a0, a1], [d0, d1], op, left, right, retry⟩ v2 v3 v4) :
  Calls Tryz.prog 10 #[.agg (jbCells ⟨at_, 7, outs, [a0, a1], [d0, d1], op, left, right, retry⟩ v2 v3 v4)] w fun e w' => e = .returned (.string (bs (textJ ⟨at_, 7, outs, [a0, a1], [d0, d1], op, left, right, retry⟩))) ∧ Keeps [] w w' := by
 obtain ⟨len_a0, len_a1, len_d0, len_d1, len_op, len_lc, len_al, len_ar⟩ := hlen
 obtain ⟨TL, hTL⟩ : ∃ t, argT left = t := ⟨_, rfl⟩
 obtain ⟨TR, hTR⟩ : ∃ t, argT right = t := ⟨_, rfl⟩
 rw [hTL] at len_al
 rw [hTR] at len_ar
 have HTL := Lib.hid hTL
 have HTR := Lib.hid hTR
 obtain ⟨A2, c2, rfl, -⟩ := own_form h.o2
 obtain ⟨A3, c3, rfl, hi⟩ := own_form h.o3
 obtain ⟨g3, rfl, lg3, hi⟩ := hi (by simp)
 have i0 : w.cell? ⟨g3, 0, none⟩ = some (.string (bs a0)) := hi 0 _ rfl
 have i1 : w.cell? ⟨g3, 1, none⟩ = some (.string (bs a1)) := hi 1 _ rfl
 have hi3 : (2 : Nat) ≤ c3 := by
  rcases h.o3.2 with ⟨h1, _⟩ | ⟨_, _, _, h1, _, _, h2, _⟩
  ·cases h1
  ·injection h1 with _ _ h1; rw [h1]; exact h2
 obtain ⟨A4, c4, rfl, hj⟩ := own_form h.o4
 obtain ⟨g4, rfl, lg4, hj⟩ := hj (by simp)
 have j0 : w.cell? ⟨g4, 0, none⟩ = some (.string (bs d0)) := hj 0 _ rfl
 have j1 : w.cell? ⟨g4, 1, none⟩ = some (.string (bs d1)) := hj 1 _ rfl
 have hj4 : (2 : Nat) ≤ c4 := by
  rcases h.o4.2 with ⟨h1, _⟩ | ⟨_, _, _, h1, _, _, h2, _⟩
  ·cases h1
  ·injection h1 with _ _ h1; rw [h1]; exact h2
 have wd : w.cell? ⟨1, 7, none⟩ = some (.string (bs [106, 111, 105, 110])) := hE.words 7 (by decide)
 have lwd := World.block_lt_of_cell? _ _ wd
 have HE := Lib.hid hE
 have HAL := Lib.hid (fun W hW => (by have h := argText_any left hl W hW; rw [hTL] at h; exact h : Calls Tryz.prog 41 #[arV left] W fun e w' => e = .returned (.string (bs TL)) ∧ Keeps [] W w'))
 have HAR := Lib.hid (fun W hW => (by have h := argText_any right hr W hW; rw [hTR] at h; exact h : Calls Tryz.prog 41 #[arV right] W fun e w' => e = .returned (.string (bs TR)) ∧ Keeps [] W w'))
 have HH := Lib.hid h
 unfold arV at HAL HAR
 clear hE hl hr h hTL hTR hi hj
 unfold jbCells
 go_enter Tryz.func10, Tryz.ntmps10
 go_upto_region 4 with (fail)
 have hb := Blk.new w 45 #[.int .i64 at_, .int .i64 7, .slice A2 outs.length c2, .slice (some ⟨g3, 0, none⟩) 2 c3, .slice (some ⟨g4, 0, none⟩) 2 c4, .string (bs op), .string (bs left.col), .int .i64 left.val.kind, .int .i64 left.val.num, .string (bs left.val.word), .string (bs right.col), .int .i64 right.val.kind, .int .i64 right.val.num, .string (bs right.val.word), .int .i64 retry]
 have hk0 := (Keeps.refl [] w).alloc (.cells #[.int .i64 at_, .int .i64 7, .slice A2 outs.length c2, .slice (some ⟨g3, 0, none⟩) 2 c3, .slice (some ⟨g4, 0, none⟩) 2 c4, .string (bs op), .string (bs left.col), .int .i64 left.val.kind, .int .i64 left.val.num, .string (bs left.val.word), .string (bs right.col), .int .i64 right.val.kind, .int .i64 right.val.num, .string (bs right.val.word), .int .i64 retry] 45)
 obtain ⟨y0, hy0⟩ : ∃ x, w.alloc (.cells #[.int .i64 at_, .int .i64 7, .slice A2 outs.length c2, .slice (some ⟨g3, 0, none⟩) 2 c3, .slice (some ⟨g4, 0, none⟩) 2 c4, .string (bs op), .string (bs left.col), .int .i64 left.val.kind, .int .i64 left.val.num, .string (bs left.val.word), .string (bs right.col), .int .i64 right.val.kind, .int .i64 right.val.num, .string (bs right.val.word), .int .i64 retry] 45) = x := ⟨_, rfl⟩
 rw [hy0] at hb hk0 ⊢
 obtain ⟨jb, hjb⟩ : ∃ x, w.heap.size = x := ⟨_, rfl⟩
 rw [hjb] at hb ⊢
 have HK0 := Lib.hid hk0
 have y3 : y0.cell? ⟨jb, 3, none⟩ = some (.slice (some ⟨g3, 0, none⟩) 2 c3) := hb.cell 3
 have y4 : y0.cell? ⟨jb, 4, none⟩ = some (.slice (some ⟨g4, 0, none⟩) 2 c4) := hb.cell 4
 have ly := hb.lt
 have p0 := hk0.cell_of i0 (by simp)
 have p1 := hk0.cell_of i1 (by simp)
 have q0 := hk0.cell_of j0 (by simp)
 have q1 := hk0.cell_of j1 (by simp)
 have lg3 : g3 < y0.heap.size := World.block_lt_of_cell? _ _ p0
 have lg4 : g4 < y0.heap.size := World.block_lt_of_cell? _ _ q0
 clear hb hk0 hy0 hjb wd lwd i0 i1 j0 j1 HH
 refine wp_region_keeps (by kernel_rfl) (by kernel_rfl) ?_
 repeat (go_big_quiet_step (fail))
 refine wpQuiet_nil ?_
 intro wx kx
 go_wp2
 go_ret
 refine ⟨congrArg (fun l => Ending.returned (.string (bs l))) (?_ : _ = _), HK0.out.trans kx⟩
 simp [textJ, wordW, wordsL]
set_option maxRecDepth 100000 in
set_option maxHeartbeats 4000000 in
theorem text_5 (at_ : Int) (outs : List Bs) (a0 a1 : Bs) (op : Bs) (left right : Ar) (retry : Int) (base : Nat) (v2 v3 v4 : Value) (w : World) (hE : FEnv w) (hl : ArW left) (hr : ArW right) (hlen : a0.length ≤ 1000000 ∧ a1.length ≤ 1000000 ∧ op.length ≤ 1000000 ∧ left.col.length ≤ 1000000 ∧ (argT left).length ≤ 1000000 ∧ (argT right).length ≤ 1000000) (h : JRows w base ⟨at_, 5, outs, [a0, a1], [], op, left, right, retry⟩ v2 v3 v4) :
  Calls Tryz.prog 10 #[.agg (jbCells ⟨at_, 5, outs, [a0, a1], [], op, left, right, retry⟩ v2 v3 v4)] w fun e w' => e = .returned (.string (bs (textJ ⟨at_, 5, outs, [a0, a1], [], op, left, right, retry⟩))) ∧ Keeps [] w w' := by
 obtain ⟨len_a0, len_a1, len_op, len_lc, len_al, len_ar⟩ := hlen
 obtain ⟨TL, hTL⟩ : ∃ t, argT left = t := ⟨_, rfl⟩
 obtain ⟨TR, hTR⟩ : ∃ t, argT right = t := ⟨_, rfl⟩
 rw [hTL] at len_al
 rw [hTR] at len_ar
 have HTL := Lib.hid hTL
 have HTR := Lib.hid hTR
 obtain ⟨A2, c2, rfl, -⟩ := own_form h.o2
 obtain ⟨A3, c3, rfl, hi⟩ := own_form h.o3
 obtain ⟨g3, rfl, lg3, hi⟩ := hi (by simp)
 have i0 : w.cell? ⟨g3, 0, none⟩ = some (.string (bs a0)) := hi 0 _ rfl
 have i1 : w.cell? ⟨g3, 1, none⟩ = some (.string (bs a1)) := hi 1 _ rfl
 have hi3 : (2 : Nat) ≤ c3 := by
  rcases h.o3.2 with ⟨h1, _⟩ | ⟨_, _, _, h1, _, _, h2, _⟩
  ·cases h1
  ·injection h1 with _ _ h1; rw [h1]; exact h2
 obtain ⟨A4, c4, rfl, -⟩ := own_form h.o4
 have wd : w.cell? ⟨1, 5, none⟩ = some (.string (bs [117, 110, 105, 111, 110])) := hE.words 5 (by decide)
 have lwd := World.block_lt_of_cell? _ _ wd
 have HE := Lib.hid hE
 have HAL := Lib.hid (fun W hW => (by have h := argText_any left hl W hW; rw [hTL] at h; exact h : Calls Tryz.prog 41 #[arV left] W fun e w' => e = .returned (.string (bs TL)) ∧ Keeps [] W w'))
 have HAR := Lib.hid (fun W hW => (by have h := argText_any right hr W hW; rw [hTR] at h; exact h : Calls Tryz.prog 41 #[arV right] W fun e w' => e = .returned (.string (bs TR)) ∧ Keeps [] W w'))
 have HH := Lib.hid h
 unfold arV at HAL HAR
 clear hE hl hr h hTL hTR hi
 unfold jbCells
 go_enter Tryz.func10, Tryz.ntmps10
 go_upto_region 6 with (fail)
 have hb := Blk.new w 45 #[.int .i64 at_, .int .i64 5, .slice A2 outs.length c2, .slice (some ⟨g3, 0, none⟩) 2 c3, .slice A4 0 c4, .string (bs op), .string (bs left.col), .int .i64 left.val.kind, .int .i64 left.val.num, .string (bs left.val.word), .string (bs right.col), .int .i64 right.val.kind, .int .i64 right.val.num, .string (bs right.val.word), .int .i64 retry]
 have hk0 := (Keeps.refl [] w).alloc (.cells #[.int .i64 at_, .int .i64 5, .slice A2 outs.length c2, .slice (some ⟨g3, 0, none⟩) 2 c3, .slice A4 0 c4, .string (bs op), .string (bs left.col), .int .i64 left.val.kind, .int .i64 left.val.num, .string (bs left.val.word), .string (bs right.col), .int .i64 right.val.kind, .int .i64 right.val.num, .string (bs right.val.word), .int .i64 retry] 45)
 obtain ⟨y0, hy0⟩ : ∃ x, w.alloc (.cells #[.int .i64 at_, .int .i64 5, .slice A2 outs.length c2, .slice (some ⟨g3, 0, none⟩) 2 c3, .slice A4 0 c4, .string (bs op), .string (bs left.col), .int .i64 left.val.kind, .int .i64 left.val.num, .string (bs left.val.word), .string (bs right.col), .int .i64 right.val.kind, .int .i64 right.val.num, .string (bs right.val.word), .int .i64 retry] 45) = x := ⟨_, rfl⟩
 rw [hy0] at hb hk0 ⊢
 obtain ⟨jb, hjb⟩ : ∃ x, w.heap.size = x := ⟨_, rfl⟩
 rw [hjb] at hb ⊢
 have HK0 := Lib.hid hk0
 have y3 : y0.cell? ⟨jb, 3, none⟩ = some (.slice (some ⟨g3, 0, none⟩) 2 c3) := hb.cell 3
 have ly := hb.lt
 have p0 := hk0.cell_of i0 (by simp)
 have p1 := hk0.cell_of i1 (by simp)
 have lg3 : g3 < y0.heap.size := World.block_lt_of_cell? _ _ p0
 clear hb hk0 hy0 hjb wd lwd i0 i1  HH
 refine wp_region_keeps (by kernel_rfl) (by kernel_rfl) ?_
 repeat (go_big_quiet_step (fail))
 refine wpQuiet_nil ?_
 intro wx kx
 go_wp2
 go_ret
 refine ⟨congrArg (fun l => Ending.returned (.string (bs l))) (?_ : _ = _), HK0.out.trans kx⟩
 simp [textJ, wordW, wordsL]
set_option maxRecDepth 100000 in
set_option maxHeartbeats 4000000 in
theorem text_6 (at_ : Int) (outs : List Bs) (a0 : Bs) (op : Bs) (left right : Ar) (retry : Int) (base : Nat) (v2 v3 v4 : Value) (w : World) (hE : FEnv w) (hl : ArW left) (hr : ArW right) (hlen : a0.length ≤ 1000000 ∧ op.length ≤ 1000000 ∧ left.col.length ≤ 1000000 ∧ (argT left).length ≤ 1000000 ∧ (argT right).length ≤ 1000000) (h : JRows w base ⟨at_, 6, outs, [a0], [], op, left, right, retry⟩ v2 v3 v4) :
  Calls Tryz.prog 10 #[.agg (jbCells ⟨at_, 6, outs, [a0], [], op, left, right, retry⟩ v2 v3 v4)] w fun e w' => e = .returned (.string (bs (textJ ⟨at_, 6, outs, [a0], [], op, left, right, retry⟩))) ∧ Keeps [] w w' := by
 obtain ⟨len_a0, len_op, len_lc, len_al, len_ar⟩ := hlen
 obtain ⟨TL, hTL⟩ : ∃ t, argT left = t := ⟨_, rfl⟩
 obtain ⟨TR, hTR⟩ : ∃ t, argT right = t := ⟨_, rfl⟩
 rw [hTL] at len_al
 rw [hTR] at len_ar
 have HTL := Lib.hid hTL
 have HTR := Lib.hid hTR
 obtain ⟨A2, c2, rfl, -⟩ := own_form h.o2
 obtain ⟨A3, c3, rfl, hi⟩ := own_form h.o3
 obtain ⟨g3, rfl, lg3, hi⟩ := hi (by simp)
 have i0 : w.cell? ⟨g3, 0, none⟩ = some (.string (bs a0)) := hi 0 _ rfl
 have hi3 : (1 : Nat) ≤ c3 := by
  rcases h.o3.2 with ⟨h1, _⟩ | ⟨_, _, _, h1, _, _, h2, _⟩
  ·cases h1
  ·injection h1 with _ _ h1; rw [h1]; exact h2
 obtain ⟨A4, c4, rfl, -⟩ := own_form h.o4
 have wd : w.cell? ⟨1, 6, none⟩ = some (.string (bs [100, 105, 115, 116, 105, 110, 99, 116])) := hE.words 6 (by decide)
 have lwd := World.block_lt_of_cell? _ _ wd
 have HE := Lib.hid hE
 have HAL := Lib.hid (fun W hW => (by have h := argText_any left hl W hW; rw [hTL] at h; exact h : Calls Tryz.prog 41 #[arV left] W fun e w' => e = .returned (.string (bs TL)) ∧ Keeps [] W w'))
 have HAR := Lib.hid (fun W hW => (by have h := argText_any right hr W hW; rw [hTR] at h; exact h : Calls Tryz.prog 41 #[arV right] W fun e w' => e = .returned (.string (bs TR)) ∧ Keeps [] W w'))
 have HH := Lib.hid h
 unfold arV at HAL HAR
 clear hE hl hr h hTL hTR hi
 unfold jbCells
 go_enter Tryz.func10, Tryz.ntmps10
 go_wp2
 go_ret
 refine ⟨congrArg (fun l => Ending.returned (.string (bs l))) (?_ : _ = _), (Keeps.refl _ _).alloc _⟩
 simp [textJ, wordW, wordsL]
set_option maxRecDepth 100000 in
set_option maxHeartbeats 4000000 in
theorem text_8 (at_ : Int) (outs : List Bs) (a0 d0 d1 : Bs) (op : Bs) (left right : Ar) (retry : Int) (base : Nat) (v2 v3 v4 : Value) (w : World) (hE : FEnv w) (hl : ArW left) (hr : ArW right) (hlen : a0.length ≤ 1000000 ∧ d0.length ≤ 1000000 ∧ d1.length ≤ 1000000 ∧ op.length ≤ 1000000 ∧ left.col.length ≤ 1000000 ∧ (argT left).length ≤ 1000000 ∧ (argT right).length ≤ 1000000) (h : JRows w base ⟨at_, 8, outs, [a0], [d0, d1], op, left, right, retry⟩ v2 v3 v4) :
  Calls Tryz.prog 10 #[.agg (jbCells ⟨at_, 8, outs, [a0], [d0, d1], op, left, right, retry⟩ v2 v3 v4)] w fun e w' => e = .returned (.string (bs (textJ ⟨at_, 8, outs, [a0], [d0, d1], op, left, right, retry⟩))) ∧ Keeps [] w w' := by
 obtain ⟨len_a0, len_d0, len_d1, len_op, len_lc, len_al, len_ar⟩ := hlen
 obtain ⟨TL, hTL⟩ : ∃ t, argT left = t := ⟨_, rfl⟩
 obtain ⟨TR, hTR⟩ : ∃ t, argT right = t := ⟨_, rfl⟩
 rw [hTL] at len_al
 rw [hTR] at len_ar
 have HTL := Lib.hid hTL
 have HTR := Lib.hid hTR
 obtain ⟨A2, c2, rfl, -⟩ := own_form h.o2
 obtain ⟨A3, c3, rfl, hi⟩ := own_form h.o3
 obtain ⟨g3, rfl, lg3, hi⟩ := hi (by simp)
 have i0 : w.cell? ⟨g3, 0, none⟩ = some (.string (bs a0)) := hi 0 _ rfl
 have hi3 : (1 : Nat) ≤ c3 := by
  rcases h.o3.2 with ⟨h1, _⟩ | ⟨_, _, _, h1, _, _, h2, _⟩
  ·cases h1
  ·injection h1 with _ _ h1; rw [h1]; exact h2
 obtain ⟨A4, c4, rfl, hj⟩ := own_form h.o4
 obtain ⟨g4, rfl, lg4, hj⟩ := hj (by simp)
 have j0 : w.cell? ⟨g4, 0, none⟩ = some (.string (bs d0)) := hj 0 _ rfl
 have j1 : w.cell? ⟨g4, 1, none⟩ = some (.string (bs d1)) := hj 1 _ rfl
 have hj4 : (2 : Nat) ≤ c4 := by
  rcases h.o4.2 with ⟨h1, _⟩ | ⟨_, _, _, h1, _, _, h2, _⟩
  ·cases h1
  ·injection h1 with _ _ h1; rw [h1]; exact h2
 have wd : w.cell? ⟨1, 8, none⟩ = some (.string (bs [103, 114, 111, 117, 112])) := hE.words 8 (by decide)
 have lwd := World.block_lt_of_cell? _ _ wd
 have HE := Lib.hid hE
 have HAL := Lib.hid (fun W hW => (by have h := argText_any left hl W hW; rw [hTL] at h; exact h : Calls Tryz.prog 41 #[arV left] W fun e w' => e = .returned (.string (bs TL)) ∧ Keeps [] W w'))
 have HAR := Lib.hid (fun W hW => (by have h := argText_any right hr W hW; rw [hTR] at h; exact h : Calls Tryz.prog 41 #[arV right] W fun e w' => e = .returned (.string (bs TR)) ∧ Keeps [] W w'))
 have HH := Lib.hid h
 unfold arV at HAL HAR
 clear hE hl hr h hTL hTR hi hj
 unfold jbCells
 go_enter Tryz.func10, Tryz.ntmps10
 go_upto_region 18 with (fail)
 have hb := Blk.new w 45 #[.int .i64 at_, .int .i64 8, .slice A2 outs.length c2, .slice (some ⟨g3, 0, none⟩) 1 c3, .slice (some ⟨g4, 0, none⟩) 2 c4, .string (bs op), .string (bs left.col), .int .i64 left.val.kind, .int .i64 left.val.num, .string (bs left.val.word), .string (bs right.col), .int .i64 right.val.kind, .int .i64 right.val.num, .string (bs right.val.word), .int .i64 retry]
 have hk0 := (Keeps.refl [] w).alloc (.cells #[.int .i64 at_, .int .i64 8, .slice A2 outs.length c2, .slice (some ⟨g3, 0, none⟩) 1 c3, .slice (some ⟨g4, 0, none⟩) 2 c4, .string (bs op), .string (bs left.col), .int .i64 left.val.kind, .int .i64 left.val.num, .string (bs left.val.word), .string (bs right.col), .int .i64 right.val.kind, .int .i64 right.val.num, .string (bs right.val.word), .int .i64 retry] 45)
 obtain ⟨y0, hy0⟩ : ∃ x, w.alloc (.cells #[.int .i64 at_, .int .i64 8, .slice A2 outs.length c2, .slice (some ⟨g3, 0, none⟩) 1 c3, .slice (some ⟨g4, 0, none⟩) 2 c4, .string (bs op), .string (bs left.col), .int .i64 left.val.kind, .int .i64 left.val.num, .string (bs left.val.word), .string (bs right.col), .int .i64 right.val.kind, .int .i64 right.val.num, .string (bs right.val.word), .int .i64 retry] 45) = x := ⟨_, rfl⟩
 rw [hy0] at hb hk0 ⊢
 obtain ⟨jb, hjb⟩ : ∃ x, w.heap.size = x := ⟨_, rfl⟩
 rw [hjb] at hb ⊢
 have HK0 := Lib.hid hk0
 have y4 : y0.cell? ⟨jb, 4, none⟩ = some (.slice (some ⟨g4, 0, none⟩) 2 c4) := hb.cell 4
 have y5 : y0.cell? ⟨jb, 5, none⟩ = some (.string (bs op)) := hb.cell 5
 have ly := hb.lt
 have p0 := hk0.cell_of i0 (by simp)
 have q0 := hk0.cell_of j0 (by simp)
 have q1 := hk0.cell_of j1 (by simp)
 have lg3 : g3 < y0.heap.size := World.block_lt_of_cell? _ _ p0
 have lg4 : g4 < y0.heap.size := World.block_lt_of_cell? _ _ q0
 clear hb hk0 hy0 hjb wd lwd i0 j0 j1 HH
 refine wp_region_keeps (by kernel_rfl) (by kernel_rfl) ?_
 repeat (go_big_quiet_step (fail))
 refine wpQuiet_nil ?_
 intro wx kx
 go_wp2
 go_ret
 refine ⟨congrArg (fun l => Ending.returned (.string (bs l))) (?_ : _ = _), HK0.out.trans kx⟩
 simp [textJ, wordW, wordsL]
set_option maxRecDepth 100000 in
set_option maxHeartbeats 4000000 in
theorem text_1 (at_ : Int) (outs : List Bs) (a0 : Bs) (op : Bs) (left right : Ar) (retry : Int) (base : Nat) (v2 v3 v4 : Value) (w : World) (hE : FEnv w) (hl : ArW left) (hr : ArW right) (hlen : a0.length ≤ 1000000 ∧ op.length ≤ 1000000 ∧ left.col.length ≤ 1000000 ∧ (argT left).length ≤ 1000000 ∧ (argT right).length ≤ 1000000) (h : JRows w base ⟨at_, 1, outs, [a0], [], op, left, right, retry⟩ v2 v3 v4) :
  Calls Tryz.prog 10 #[.agg (jbCells ⟨at_, 1, outs, [a0], [], op, left, right, retry⟩ v2 v3 v4)] w fun e w' => e = .returned (.string (bs (textJ ⟨at_, 1, outs, [a0], [], op, left, right, retry⟩))) ∧ Keeps [] w w' := by
 obtain ⟨len_a0, len_op, len_lc, len_al, len_ar⟩ := hlen
 obtain ⟨TL, hTL⟩ : ∃ t, argT left = t := ⟨_, rfl⟩
 obtain ⟨TR, hTR⟩ : ∃ t, argT right = t := ⟨_, rfl⟩
 rw [hTL] at len_al
 rw [hTR] at len_ar
 have HTL := Lib.hid hTL
 have HTR := Lib.hid hTR
 obtain ⟨A2, c2, rfl, -⟩ := own_form h.o2
 obtain ⟨A3, c3, rfl, hi⟩ := own_form h.o3
 obtain ⟨g3, rfl, lg3, hi⟩ := hi (by simp)
 have i0 : w.cell? ⟨g3, 0, none⟩ = some (.string (bs a0)) := hi 0 _ rfl
 have hi3 : (1 : Nat) ≤ c3 := by
  rcases h.o3.2 with ⟨h1, _⟩ | ⟨_, _, _, h1, _, _, h2, _⟩
  ·cases h1
  ·injection h1 with _ _ h1; rw [h1]; exact h2
 obtain ⟨A4, c4, rfl, -⟩ := own_form h.o4
 have wd : w.cell? ⟨1, 1, none⟩ = some (.string (bs [102, 105, 108, 116, 101, 114])) := hE.words 1 (by decide)
 have lwd := World.block_lt_of_cell? _ _ wd
 have HE := Lib.hid hE
 have HAL := Lib.hid (fun W hW => (by have h := argText_any left hl W hW; rw [hTL] at h; exact h : Calls Tryz.prog 41 #[arV left] W fun e w' => e = .returned (.string (bs TL)) ∧ Keeps [] W w'))
 have HAR := Lib.hid (fun W hW => (by have h := argText_any right hr W hW; rw [hTR] at h; exact h : Calls Tryz.prog 41 #[arV right] W fun e w' => e = .returned (.string (bs TR)) ∧ Keeps [] W w'))
 have HH := Lib.hid h
 unfold arV at HAL HAR
 clear hE hl hr h hTL hTR hi
 unfold jbCells
 go_enter Tryz.func10, Tryz.ntmps10
 go_upto_region 11 with (fail)
 have hb := Blk.new w 45 #[.int .i64 at_, .int .i64 1, .slice A2 outs.length c2, .slice (some ⟨g3, 0, none⟩) 1 c3, .slice A4 0 c4, .string (bs op), .string (bs left.col), .int .i64 left.val.kind, .int .i64 left.val.num, .string (bs left.val.word), .string (bs right.col), .int .i64 right.val.kind, .int .i64 right.val.num, .string (bs right.val.word), .int .i64 retry]
 have hk0 := (Keeps.refl [] w).alloc (.cells #[.int .i64 at_, .int .i64 1, .slice A2 outs.length c2, .slice (some ⟨g3, 0, none⟩) 1 c3, .slice A4 0 c4, .string (bs op), .string (bs left.col), .int .i64 left.val.kind, .int .i64 left.val.num, .string (bs left.val.word), .string (bs right.col), .int .i64 right.val.kind, .int .i64 right.val.num, .string (bs right.val.word), .int .i64 retry] 45)
 obtain ⟨y0, hy0⟩ : ∃ x, w.alloc (.cells #[.int .i64 at_, .int .i64 1, .slice A2 outs.length c2, .slice (some ⟨g3, 0, none⟩) 1 c3, .slice A4 0 c4, .string (bs op), .string (bs left.col), .int .i64 left.val.kind, .int .i64 left.val.num, .string (bs left.val.word), .string (bs right.col), .int .i64 right.val.kind, .int .i64 right.val.num, .string (bs right.val.word), .int .i64 retry] 45) = x := ⟨_, rfl⟩
 rw [hy0] at hb hk0 ⊢
 obtain ⟨jb, hjb⟩ : ∃ x, w.heap.size = x := ⟨_, rfl⟩
 rw [hjb] at hb ⊢
 have HK0 := Lib.hid hk0
 have y5 : y0.cell? ⟨jb, 5, none⟩ = some (.string (bs op)) := hb.cell 5
 have y6 : y0.cell? ⟨jb, 6, none⟩ = some (.string (bs left.col)) := hb.cell 6
 have y7 : y0.cell? ⟨jb, 7, none⟩ = some (.int .i64 left.val.kind) := hb.cell 7
 have y8 : y0.cell? ⟨jb, 8, none⟩ = some (.int .i64 left.val.num) := hb.cell 8
 have y9 : y0.cell? ⟨jb, 9, none⟩ = some (.string (bs left.val.word)) := hb.cell 9
 have y10 : y0.cell? ⟨jb, 10, none⟩ = some (.string (bs right.col)) := hb.cell 10
 have y11 : y0.cell? ⟨jb, 11, none⟩ = some (.int .i64 right.val.kind) := hb.cell 11
 have y12 : y0.cell? ⟨jb, 12, none⟩ = some (.int .i64 right.val.num) := hb.cell 12
 have y13 : y0.cell? ⟨jb, 13, none⟩ = some (.string (bs right.val.word)) := hb.cell 13
 have ly := hb.lt
 have p0 := hk0.cell_of i0 (by simp)
 have lg3 : g3 < y0.heap.size := World.block_lt_of_cell? _ _ p0
 clear hb hk0 hy0 hjb wd lwd i0  HH
 have HC1 : Hid (∀ W, Keeps [] y0 W → Calls Tryz.prog 41 #[.agg #[.string (bs right.col), .int .i64 right.val.kind, .int .i64 right.val.num, .string (bs right.val.word)]] W fun e W' => e = .returned (.string (bs TR)) ∧ Keeps [] W W') := Lib.hid (fun W q => HAR.out W (HE.out.quiet (HK0.out.trans q)))
 refine wp_region_keeps (by kernel_rfl) (by kernel_rfl) ?_
 repeat (go_big_quiet_step (with_reducible exact KW.of HC1.out _))
 refine wpQuiet_nil ?_
 intro wx kx
 go_wp2
 go_ret
 refine ⟨congrArg (fun l => Ending.returned (.string (bs l))) (?_ : _ = _), HK0.out.trans kx⟩
 simp [textJ, wordW, wordsL, HTR.out]
set_option maxRecDepth 100000 in
set_option maxHeartbeats 4000000 in
theorem text_9 (at_ : Int) (outs : List Bs) (a0 : Bs) (op : Bs) (left right : Ar) (retry : Int) (base : Nat) (v2 v3 v4 : Value) (w : World) (hE : FEnv w) (hl : ArW left) (hr : ArW right) (hlen : a0.length ≤ 1000000 ∧ op.length ≤ 1000000 ∧ left.col.length ≤ 1000000 ∧ (argT left).length ≤ 1000000 ∧ (argT right).length ≤ 1000000) (h : JRows w base ⟨at_, 9, outs, [a0], [], op, left, right, retry⟩ v2 v3 v4) :
  Calls Tryz.prog 10 #[.agg (jbCells ⟨at_, 9, outs, [a0], [], op, left, right, retry⟩ v2 v3 v4)] w fun e w' => e = .returned (.string (bs (textJ ⟨at_, 9, outs, [a0], [], op, left, right, retry⟩))) ∧ Keeps [] w w' := by
 obtain ⟨len_a0, len_op, len_lc, len_al, len_ar⟩ := hlen
 obtain ⟨TL, hTL⟩ : ∃ t, argT left = t := ⟨_, rfl⟩
 obtain ⟨TR, hTR⟩ : ∃ t, argT right = t := ⟨_, rfl⟩
 rw [hTL] at len_al
 rw [hTR] at len_ar
 have HTL := Lib.hid hTL
 have HTR := Lib.hid hTR
 obtain ⟨A2, c2, rfl, -⟩ := own_form h.o2
 obtain ⟨A3, c3, rfl, hi⟩ := own_form h.o3
 obtain ⟨g3, rfl, lg3, hi⟩ := hi (by simp)
 have i0 : w.cell? ⟨g3, 0, none⟩ = some (.string (bs a0)) := hi 0 _ rfl
 have hi3 : (1 : Nat) ≤ c3 := by
  rcases h.o3.2 with ⟨h1, _⟩ | ⟨_, _, _, h1, _, _, h2, _⟩
  ·cases h1
  ·injection h1 with _ _ h1; rw [h1]; exact h2
 obtain ⟨A4, c4, rfl, -⟩ := own_form h.o4
 have wd : w.cell? ⟨1, 9, none⟩ = some (.string (bs [115, 112, 108, 105, 116])) := hE.words 9 (by decide)
 have lwd := World.block_lt_of_cell? _ _ wd
 have HE := Lib.hid hE
 have HAL := Lib.hid (fun W hW => (by have h := argText_any left hl W hW; rw [hTL] at h; exact h : Calls Tryz.prog 41 #[arV left] W fun e w' => e = .returned (.string (bs TL)) ∧ Keeps [] W w'))
 have HAR := Lib.hid (fun W hW => (by have h := argText_any right hr W hW; rw [hTR] at h; exact h : Calls Tryz.prog 41 #[arV right] W fun e w' => e = .returned (.string (bs TR)) ∧ Keeps [] W w'))
 have HH := Lib.hid h
 unfold arV at HAL HAR
 clear hE hl hr h hTL hTR hi
 unfold jbCells
 go_enter Tryz.func10, Tryz.ntmps10
 go_upto_region 11 with (fail)
 have hb := Blk.new w 45 #[.int .i64 at_, .int .i64 9, .slice A2 outs.length c2, .slice (some ⟨g3, 0, none⟩) 1 c3, .slice A4 0 c4, .string (bs op), .string (bs left.col), .int .i64 left.val.kind, .int .i64 left.val.num, .string (bs left.val.word), .string (bs right.col), .int .i64 right.val.kind, .int .i64 right.val.num, .string (bs right.val.word), .int .i64 retry]
 have hk0 := (Keeps.refl [] w).alloc (.cells #[.int .i64 at_, .int .i64 9, .slice A2 outs.length c2, .slice (some ⟨g3, 0, none⟩) 1 c3, .slice A4 0 c4, .string (bs op), .string (bs left.col), .int .i64 left.val.kind, .int .i64 left.val.num, .string (bs left.val.word), .string (bs right.col), .int .i64 right.val.kind, .int .i64 right.val.num, .string (bs right.val.word), .int .i64 retry] 45)
 obtain ⟨y0, hy0⟩ : ∃ x, w.alloc (.cells #[.int .i64 at_, .int .i64 9, .slice A2 outs.length c2, .slice (some ⟨g3, 0, none⟩) 1 c3, .slice A4 0 c4, .string (bs op), .string (bs left.col), .int .i64 left.val.kind, .int .i64 left.val.num, .string (bs left.val.word), .string (bs right.col), .int .i64 right.val.kind, .int .i64 right.val.num, .string (bs right.val.word), .int .i64 retry] 45) = x := ⟨_, rfl⟩
 rw [hy0] at hb hk0 ⊢
 obtain ⟨jb, hjb⟩ : ∃ x, w.heap.size = x := ⟨_, rfl⟩
 rw [hjb] at hb ⊢
 have HK0 := Lib.hid hk0
 have y5 : y0.cell? ⟨jb, 5, none⟩ = some (.string (bs op)) := hb.cell 5
 have y6 : y0.cell? ⟨jb, 6, none⟩ = some (.string (bs left.col)) := hb.cell 6
 have y7 : y0.cell? ⟨jb, 7, none⟩ = some (.int .i64 left.val.kind) := hb.cell 7
 have y8 : y0.cell? ⟨jb, 8, none⟩ = some (.int .i64 left.val.num) := hb.cell 8
 have y9 : y0.cell? ⟨jb, 9, none⟩ = some (.string (bs left.val.word)) := hb.cell 9
 have y10 : y0.cell? ⟨jb, 10, none⟩ = some (.string (bs right.col)) := hb.cell 10
 have y11 : y0.cell? ⟨jb, 11, none⟩ = some (.int .i64 right.val.kind) := hb.cell 11
 have y12 : y0.cell? ⟨jb, 12, none⟩ = some (.int .i64 right.val.num) := hb.cell 12
 have y13 : y0.cell? ⟨jb, 13, none⟩ = some (.string (bs right.val.word)) := hb.cell 13
 have ly := hb.lt
 have p0 := hk0.cell_of i0 (by simp)
 have lg3 : g3 < y0.heap.size := World.block_lt_of_cell? _ _ p0
 clear hb hk0 hy0 hjb wd lwd i0  HH
 have HC1 : Hid (∀ W, Keeps [] y0 W → Calls Tryz.prog 41 #[.agg #[.string (bs right.col), .int .i64 right.val.kind, .int .i64 right.val.num, .string (bs right.val.word)]] W fun e W' => e = .returned (.string (bs TR)) ∧ Keeps [] W W') := Lib.hid (fun W q => HAR.out W (HE.out.quiet (HK0.out.trans q)))
 refine wp_region_keeps (by kernel_rfl) (by kernel_rfl) ?_
 repeat (go_big_quiet_step (with_reducible exact KW.of HC1.out _))
 refine wpQuiet_nil ?_
 intro wx kx
 go_wp2
 go_ret
 refine ⟨congrArg (fun l => Ending.returned (.string (bs l))) (?_ : _ = _), HK0.out.trans kx⟩
 simp [textJ, wordW, wordsL, HTR.out]
set_option maxRecDepth 100000 in
set_option maxHeartbeats 4000000 in
theorem text_2 (at_ : Int) (outs : List Bs) (a0 d0 : Bs) (op : Bs) (left right : Ar) (retry : Int) (base : Nat) (v2 v3 v4 : Value) (w : World) (hE : FEnv w) (hl : ArW left) (hr : ArW right) (hlen : a0.length ≤ 1000000 ∧ d0.length ≤ 1000000 ∧ op.length ≤ 1000000 ∧ left.col.length ≤ 1000000 ∧ (argT left).length ≤ 1000000 ∧ (argT right).length ≤ 1000000) (h : JRows w base ⟨at_, 2, outs, [a0], [d0], op, left, right, retry⟩ v2 v3 v4) :
  Calls Tryz.prog 10 #[.agg (jbCells ⟨at_, 2, outs, [a0], [d0], op, left, right, retry⟩ v2 v3 v4)] w fun e w' => e = .returned (.string (bs (textJ ⟨at_, 2, outs, [a0], [d0], op, left, right, retry⟩))) ∧ Keeps [] w w' := by
 obtain ⟨len_a0, len_d0, len_op, len_lc, len_al, len_ar⟩ := hlen
 obtain ⟨TL, hTL⟩ : ∃ t, argT left = t := ⟨_, rfl⟩
 obtain ⟨TR, hTR⟩ : ∃ t, argT right = t := ⟨_, rfl⟩
 rw [hTL] at len_al
 rw [hTR] at len_ar
 have HTL := Lib.hid hTL
 have HTR := Lib.hid hTR
 obtain ⟨A2, c2, rfl, -⟩ := own_form h.o2
 obtain ⟨A3, c3, rfl, hi⟩ := own_form h.o3
 obtain ⟨g3, rfl, lg3, hi⟩ := hi (by simp)
 have i0 : w.cell? ⟨g3, 0, none⟩ = some (.string (bs a0)) := hi 0 _ rfl
 have hi3 : (1 : Nat) ≤ c3 := by
  rcases h.o3.2 with ⟨h1, _⟩ | ⟨_, _, _, h1, _, _, h2, _⟩
  ·cases h1
  ·injection h1 with _ _ h1; rw [h1]; exact h2
 obtain ⟨A4, c4, rfl, hj⟩ := own_form h.o4
 obtain ⟨g4, rfl, lg4, hj⟩ := hj (by simp)
 have j0 : w.cell? ⟨g4, 0, none⟩ = some (.string (bs d0)) := hj 0 _ rfl
 have hj4 : (1 : Nat) ≤ c4 := by
  rcases h.o4.2 with ⟨h1, _⟩ | ⟨_, _, _, h1, _, _, h2, _⟩
  ·cases h1
  ·injection h1 with _ _ h1; rw [h1]; exact h2
 have wd : w.cell? ⟨1, 2, none⟩ = some (.string (bs [115, 101, 116])) := hE.words 2 (by decide)
 have lwd := World.block_lt_of_cell? _ _ wd
 have HE := Lib.hid hE
 have HAL := Lib.hid (fun W hW => (by have h := argText_any left hl W hW; rw [hTL] at h; exact h : Calls Tryz.prog 41 #[arV left] W fun e w' => e = .returned (.string (bs TL)) ∧ Keeps [] W w'))
 have HAR := Lib.hid (fun W hW => (by have h := argText_any right hr W hW; rw [hTR] at h; exact h : Calls Tryz.prog 41 #[arV right] W fun e w' => e = .returned (.string (bs TR)) ∧ Keeps [] W w'))
 have HH := Lib.hid h
 unfold arV at HAL HAR
 clear hE hl hr h hTL hTR hi hj
 unfold jbCells
 go_enter Tryz.func10, Tryz.ntmps10
 go_upto_region 13 with (fail)
 have hb := Blk.new w 45 #[.int .i64 at_, .int .i64 2, .slice A2 outs.length c2, .slice (some ⟨g3, 0, none⟩) 1 c3, .slice (some ⟨g4, 0, none⟩) 1 c4, .string (bs op), .string (bs left.col), .int .i64 left.val.kind, .int .i64 left.val.num, .string (bs left.val.word), .string (bs right.col), .int .i64 right.val.kind, .int .i64 right.val.num, .string (bs right.val.word), .int .i64 retry]
 have hk0 := (Keeps.refl [] w).alloc (.cells #[.int .i64 at_, .int .i64 2, .slice A2 outs.length c2, .slice (some ⟨g3, 0, none⟩) 1 c3, .slice (some ⟨g4, 0, none⟩) 1 c4, .string (bs op), .string (bs left.col), .int .i64 left.val.kind, .int .i64 left.val.num, .string (bs left.val.word), .string (bs right.col), .int .i64 right.val.kind, .int .i64 right.val.num, .string (bs right.val.word), .int .i64 retry] 45)
 obtain ⟨y0, hy0⟩ : ∃ x, w.alloc (.cells #[.int .i64 at_, .int .i64 2, .slice A2 outs.length c2, .slice (some ⟨g3, 0, none⟩) 1 c3, .slice (some ⟨g4, 0, none⟩) 1 c4, .string (bs op), .string (bs left.col), .int .i64 left.val.kind, .int .i64 left.val.num, .string (bs left.val.word), .string (bs right.col), .int .i64 right.val.kind, .int .i64 right.val.num, .string (bs right.val.word), .int .i64 retry] 45) = x := ⟨_, rfl⟩
 rw [hy0] at hb hk0 ⊢
 obtain ⟨jb, hjb⟩ : ∃ x, w.heap.size = x := ⟨_, rfl⟩
 rw [hjb] at hb ⊢
 have HK0 := Lib.hid hk0
 have y4 : y0.cell? ⟨jb, 4, none⟩ = some (.slice (some ⟨g4, 0, none⟩) 1 c4) := hb.cell 4
 have y5 : y0.cell? ⟨jb, 5, none⟩ = some (.string (bs op)) := hb.cell 5
 have y6 : y0.cell? ⟨jb, 6, none⟩ = some (.string (bs left.col)) := hb.cell 6
 have y7 : y0.cell? ⟨jb, 7, none⟩ = some (.int .i64 left.val.kind) := hb.cell 7
 have y8 : y0.cell? ⟨jb, 8, none⟩ = some (.int .i64 left.val.num) := hb.cell 8
 have y9 : y0.cell? ⟨jb, 9, none⟩ = some (.string (bs left.val.word)) := hb.cell 9
 have y10 : y0.cell? ⟨jb, 10, none⟩ = some (.string (bs right.col)) := hb.cell 10
 have y11 : y0.cell? ⟨jb, 11, none⟩ = some (.int .i64 right.val.kind) := hb.cell 11
 have y12 : y0.cell? ⟨jb, 12, none⟩ = some (.int .i64 right.val.num) := hb.cell 12
 have y13 : y0.cell? ⟨jb, 13, none⟩ = some (.string (bs right.val.word)) := hb.cell 13
 have ly := hb.lt
 have p0 := hk0.cell_of i0 (by simp)
 have q0 := hk0.cell_of j0 (by simp)
 have lg3 : g3 < y0.heap.size := World.block_lt_of_cell? _ _ p0
 have lg4 : g4 < y0.heap.size := World.block_lt_of_cell? _ _ q0
 clear hb hk0 hy0 hjb wd lwd i0 j0 HH
 have HC0 : Hid (∀ W, Keeps [] y0 W → Calls Tryz.prog 41 #[.agg #[.string (bs left.col), .int .i64 left.val.kind, .int .i64 left.val.num, .string (bs left.val.word)]] W fun e W' => e = .returned (.string (bs TL)) ∧ Keeps [] W W') := Lib.hid (fun W q => HAL.out W (HE.out.quiet (HK0.out.trans q)))
 have HC1 : Hid (∀ W, Keeps [] y0 W → Calls Tryz.prog 41 #[.agg #[.string (bs right.col), .int .i64 right.val.kind, .int .i64 right.val.num, .string (bs right.val.word)]] W fun e W' => e = .returned (.string (bs TR)) ∧ Keeps [] W W') := Lib.hid (fun W q => HAR.out W (HE.out.quiet (HK0.out.trans q)))
 refine wp_region_keeps (by kernel_rfl) (by kernel_rfl) ?_
 repeat (go_big_quiet_step (first | with_reducible exact KW.of HC0.out _ | with_reducible exact KW.of HC1.out _))
 refine wpQuiet_nil ?_
 intro wx kx
 go_wp2
 go_ret
 refine ⟨congrArg (fun l => Ending.returned (.string (bs l))) (?_ : _ = _), HK0.out.trans kx⟩
 simp [textJ, wordW, wordsL, HTL.out, HTR.out]
set_option maxRecDepth 100000 in
set_option maxHeartbeats 4000000 in
theorem text_3 (at_ : Int) (outs : List Bs) (a0 : Bs) (cols : List Bs) (op : Bs) (left right : Ar) (retry : Int) (base : Nat) (v2 v3 v4 : Value) (w : World) (hE : FEnv w) (hlen : a0.length ≤ 1000000) (h : JRows w base ⟨at_, 3, outs, [a0], cols, op, left, right, retry⟩ v2 v3 v4) (hne : cols ≠ []) (hcl : cols.length ≤ 1000000) (hjl : (joinCm cols).length ≤ 1000000000) :
  Calls Tryz.prog 10 #[.agg (jbCells ⟨at_, 3, outs, [a0], cols, op, left, right, retry⟩ v2 v3 v4)] w fun e w' => e = .returned (.string (bs (textJ ⟨at_, 3, outs, [a0], cols, op, left, right, retry⟩))) ∧ Keeps [] w w' := by
 obtain ⟨A2, c2, rfl, -⟩ := own_form h.o2
 obtain ⟨A3, c3, rfl, hi⟩ := own_form h.o3
 obtain ⟨g3, rfl, lg3, hi⟩ := hi (by simp)
 have i0 : w.cell? ⟨g3, 0, none⟩ = some (.string (bs a0)) := hi 0 _ rfl
 have hi3 : (1 : Nat) ≤ c3 := by
  rcases h.o3.2 with ⟨h1, _⟩ | ⟨_, _, _, h1, _, _, h2, _⟩
  ·cases h1
  ·injection h1 with _ _ h1; rw [h1]; exact h2
 obtain ⟨A4, c4, rfl, -⟩ := own_form h.o4
 have wd : w.cell? ⟨1, 3, none⟩ = some (.string (bs [112, 114, 111, 106, 101, 99, 116])) := hE.words 3 (by decide)
 have lwd := World.block_lt_of_cell? _ _ wd
 obtain ⟨JT, hJT⟩ : ∃ t, joinCm cols = t := ⟨_, rfl⟩
 have len_j : JT.length ≤ 1000000000 := by rw [← hJT]; exact hjl
 have HJT := Lib.hid hJT
 have HJ := Lib.hid (joinS_any cols hne hcl hjl A4 c4 (w.alloc (.cells #[.int .i64 at_, .int .i64 3, .slice A2 outs.length c2, .slice (some ⟨g3, 0, none⟩) 1 c3, .slice A4 cols.length c4, .string (bs op), .string (bs left.col), .int .i64 left.val.kind, .int .i64 left.val.num, .string (bs left.val.word), .string (bs right.col), .int .i64 right.val.kind, .int .i64 right.val.num, .string (bs right.val.word), .int .i64 retry] 45)) base (h.o4.alloc _))
 rw [hJT] at HJ
 have HE := Lib.hid hE
 clear hE h hi hne hcl hjl hJT
 unfold jbCells
 go_enter Tryz.func10, Tryz.ntmps10
 go_wp2_with fail
 refine HJ.out.mono ?_
 rintro e w2 ⟨rfl, hk⟩
 go_wp2
 go_ret
 refine ⟨congrArg (fun l => Ending.returned (.string (bs l))) (?_ : _ = _), ((Keeps.refl _ _).alloc _).trans hk⟩
 simp [textJ, wordW, wordsL, HJT.out]
set_option maxRecDepth 100000 in
set_option maxHeartbeats 4000000 in
theorem text_4 (at_ : Int) (outs : List Bs) (a0 : Bs) (cols : List Bs) (op : Bs) (left right : Ar) (retry : Int) (base : Nat) (v2 v3 v4 : Value) (w : World) (hE : FEnv w) (hlen : a0.length ≤ 1000000) (h : JRows w base ⟨at_, 4, outs, [a0], cols, op, left, right, retry⟩ v2 v3 v4) (hne : cols ≠ []) (hcl : cols.length ≤ 1000000) (hjl : (joinCm cols).length ≤ 1000000000) :
  Calls Tryz.prog 10 #[.agg (jbCells ⟨at_, 4, outs, [a0], cols, op, left, right, retry⟩ v2 v3 v4)] w fun e w' => e = .returned (.string (bs (textJ ⟨at_, 4, outs, [a0], cols, op, left, right, retry⟩))) ∧ Keeps [] w w' := by
 obtain ⟨A2, c2, rfl, -⟩ := own_form h.o2
 obtain ⟨A3, c3, rfl, hi⟩ := own_form h.o3
 obtain ⟨g3, rfl, lg3, hi⟩ := hi (by simp)
 have i0 : w.cell? ⟨g3, 0, none⟩ = some (.string (bs a0)) := hi 0 _ rfl
 have hi3 : (1 : Nat) ≤ c3 := by
  rcases h.o3.2 with ⟨h1, _⟩ | ⟨_, _, _, h1, _, _, h2, _⟩
  ·cases h1
  ·injection h1 with _ _ h1; rw [h1]; exact h2
 obtain ⟨A4, c4, rfl, -⟩ := own_form h.o4
 have wd : w.cell? ⟨1, 4, none⟩ = some (.string (bs [115, 111, 114, 116])) := hE.words 4 (by decide)
 have lwd := World.block_lt_of_cell? _ _ wd
 obtain ⟨JT, hJT⟩ : ∃ t, joinCm cols = t := ⟨_, rfl⟩
 have len_j : JT.length ≤ 1000000000 := by rw [← hJT]; exact hjl
 have HJT := Lib.hid hJT
 have HJ := Lib.hid (joinS_any cols hne hcl hjl A4 c4 (w.alloc (.cells #[.int .i64 at_, .int .i64 4, .slice A2 outs.length c2, .slice (some ⟨g3, 0, none⟩) 1 c3, .slice A4 cols.length c4, .string (bs op), .string (bs left.col), .int .i64 left.val.kind, .int .i64 left.val.num, .string (bs left.val.word), .string (bs right.col), .int .i64 right.val.kind, .int .i64 right.val.num, .string (bs right.val.word), .int .i64 retry] 45)) base (h.o4.alloc _))
 rw [hJT] at HJ
 have HE := Lib.hid hE
 clear hE h hi hne hcl hjl hJT
 unfold jbCells
 go_enter Tryz.func10, Tryz.ntmps10
 go_wp2_with fail
 refine HJ.out.mono ?_
 rintro e w2 ⟨rfl, hk⟩
 go_wp2
 go_ret
 refine ⟨congrArg (fun l => Ending.returned (.string (bs l))) (?_ : _ = _), ((Keeps.refl _ _).alloc _).trans hk⟩
 simp [textJ, wordW, wordsL, HJT.out]
end Go.Proofs.YtnjjajanfedjiaaGreatDoor
namespace Go.Proofs.YtnjjajanfedjiaaGreatDoor
open Go.RowKit
theorem ArgZ.arw {a : Ar} (h : ArgZ a) : ArW a := by
 rcases h with h | ⟨_, h⟩ | ⟨_, h⟩
 ·rw [h]; exact ⟨by unfold numOk; decide, by decide⟩
 ·unfold ArW
  rw [h]; exact ⟨by unfold numOk; decide, by decide⟩
 ·obtain ⟨h1, h2, h3⟩ := rvB_num h
  exact ⟨by unfold numOk; omega, by omega⟩
theorem argZ_col {a : Ar} (h : ArgZ a) : a.col.length ≤ 10 := by
 rcases h with h | ⟨h, _⟩ | ⟨h, _⟩
 ·rw [h]; decide
 ·exact h.len
 ·rw [h]; decide
theorem text_any (j : Jb) (hj : JobW j) (base : Nat) (v2 v3 v4 : Value) (w : World) (hE : FEnv w) (h : JRows w base j v2 v3 v4) :
  Calls Tryz.prog 10 #[.agg (jbCells j v2 v3 v4)] w fun e w' => e = .returned (.string (bs (textJ j))) ∧ Keeps [] w w' := by
 obtain ⟨ho, hlo, hhi, hl, hr, hop, hb⟩ := hj
 obtain ⟨at_, code, outs, ins, cols, op, left, right, retry⟩ := j
 dsimp only at ho hlo hhi hl hr hop
 have t1 := argT_len hl
 have t2 := argT_len hr
 have t3 := argZ_col hl
 rcases hb with ⟨e, a, b, c, d, ha, hb, hc, hd, e1, e2⟩ | ⟨e, a, b, ha, hb, e1, e2⟩ | ⟨e, a, ha, e1, e2⟩ | ⟨e, a, s, ha, hs, e1, e2, e3, e4, e5⟩ | ⟨e, a, c, ha, hc, e1, e2, e3, e4, e5⟩ | ⟨e, a, ha, e1, e2⟩ | ⟨e, a, c, d, ha, hc, hd, e1, e2, e3⟩
 ·dsimp only at e e1 e2
  subst e e1 e2
  exact text_7 at_ outs a b c d op left right retry base v2 v3 v4 w hE hl.arw hr.arw ⟨(by have := ha.len; omega), (by have := hb.len; omega), (by have := hc.len; omega), (by have := hd.len; omega), (by omega), (by omega), (by omega), (by omega)⟩ h
 ·dsimp only at e e1 e2
  subst e e1 e2
  exact text_5 at_ outs a b op left right retry base v2 v3 v4 w hE hl.arw hr.arw ⟨(by have := ha.len; omega), (by have := hb.len; omega), (by omega), (by omega), (by omega), (by omega)⟩ h
 ·dsimp only at e e1 e2
  subst e e1 e2
  exact text_6 at_ outs a op left right retry base v2 v3 v4 w hE hl.arw hr.arw ⟨(by have := ha.len; omega), (by omega), (by omega), (by omega), (by omega)⟩ h
 ·rcases e with e | e
  ·dsimp only at e e1 e2
   subst e e1 e2
   exact text_1 at_ outs a op left right retry base v2 v3 v4 w hE hl.arw hr.arw ⟨(by have := ha.len; omega), (by omega), (by omega), (by omega), (by omega)⟩ h
  ·dsimp only at e e1 e2
   subst e e1 e2
   exact text_9 at_ outs a op left right retry base v2 v3 v4 w hE hl.arw hr.arw ⟨(by have := ha.len; omega), (by omega), (by omega), (by omega), (by omega)⟩ h
 ·dsimp only at e e1 e2
  subst e e1 e2
  exact text_2 at_ outs a c op left right retry base v2 v3 v4 w hE hl.arw hr.arw ⟨(by have := ha.len; omega), (by have := hc.len; omega), (by omega), (by omega), (by omega), (by omega)⟩ h
 ·have hn := names_len e2
  rcases e with e | e
  ·dsimp only at e e1 e2 hn
   subst e e1
   exact text_3 at_ outs a cols op left right retry base v2 v3 v4 w hE (by have := ha.len; omega) h e2.1 (by have := e2.2.1; omega) (by omega)
  ·dsimp only at e e1 e2 hn
   subst e e1
   exact text_4 at_ outs a cols op left right retry base v2 v3 v4 w hE (by have := ha.len; omega) h e2.1 (by have := e2.2.1; omega) (by omega)
 ·dsimp only at e e1 e2
  subst e e1 e2
  exact text_8 at_ outs a c d op left right retry base v2 v3 v4 w hE hl.arw hr.arw ⟨(by have := ha.len; omega), (by have := hc.len; omega), (by have := hd.len; omega), (by omega), (by omega), (by omega), (by omega)⟩ h
theorem textJ_len (j : Jb) (hj : JobW j) : (textJ j).length ≤ 12100 := by
 obtain ⟨ho, hlo, hhi, hl, hr, hop, hb⟩ := hj
 obtain ⟨at_, code, outs, ins, cols, op, left, right, retry⟩ := j
 dsimp only at ho hlo hhi hl hr hop
 have t1 := argT_len hl
 have t2 := argT_len hr
 have t3 := argZ_col hl
 rcases hb with ⟨e, a, b, c, d, ha, hb, hc, hd, e1, e2⟩ | ⟨e, a, b, ha, hb, e1, e2⟩ | ⟨e, a, ha, e1, e2⟩ | ⟨e, a, s, ha, hs, e1, e2, e3, e4, e5⟩ | ⟨e, a, c, ha, hc, e1, e2, e3, e4, e5⟩ | ⟨e, a, ha, e1, e2⟩ | ⟨e, a, c, d, ha, hc, hd, e1, e2, e3⟩
 case' inr.inr.inr.inl => rcases e with e | e
 case' inr.inr.inr.inr.inr.inl => have hn := names_len e2
 case' inr.inr.inr.inr.inr.inl => rcases e with e | e
 all_goals
  dsimp only at e e1
  subst e e1
  try dsimp only at hn
  try (dsimp only at e2; subst e2)
  have := ha.len
  try have := hb.len
  try have := hc.len
  try have := hd.len
  simp [textJ, wordW, wordsL]
  omega
theorem jobT_len (j : Jb) (hj : JobW j) : (jobT j).length ≤ 25000 := by
 unfold jobT
 have h1 := textJ_len j hj
 have h2 := names_len hj.outs
 have h3 := itoa_len (n := j.retry) (by have := hj.lo; omega) (by have := hj.hi; omega)
 split
 ·simp only [List.length_append, List.length_cons, List.length_nil]
  omega
 ·simp only [List.length_append, List.length_cons, List.length_nil]
  omega
end Go.Proofs.YtnjjajanfedjiaaGreatDoor
namespace Go.Proofs.YtnjjajanfedjiaaGreatDoor
open Go.RowKit Go.BigFrame
theorem flat_at {size : Nat} : ∀ {us : List (List Value)} (_ : ∀ u ∈ us, u.length = size) (j : Nat) (h : j < us.length) (k : Nat), k < size → us.flatten[j * size + k]? = us[j][k]?
 | [], _, j, h, _, _ => absurd h (by simp)
 | u :: us, hu, 0, _, k, hk => by
  have h0 := hu u (by simp)
  rw [List.flatten_cons, Nat.zero_mul, Nat.zero_add, List.getElem?_append_left (by omega)]
  rfl
 | u :: us, hu, j + 1, h, k, hk => by
  have h0 := hu u (by simp)
  rw [List.flatten_cons, List.getElem?_append_right (by rw [h0, Nat.succ_mul]; omega), h0, show (j + 1) * size + k - size = j * size + k by rw [Nat.succ_mul]; omega]
  exact flat_at (fun u hm => hu u (List.mem_cons_of_mem _ hm)) j (by simpa using h) k hk
theorem cap_le {W : World} {base n size : Nat} {e : TypeId} {A : Option Addr} {m c : Nat} {xs : List Value} (h : W.ownsRow base e size (.slice A m c) n xs) : n ≤ c := by
 rcases h.2 with ⟨h1, h2⟩ | ⟨_, _, _, h1, _, _, h2, _⟩
 ·injection h1 with _ _ h1; omega
 ·injection h1 with _ _ h1; rw [h1]; exact h2
theorem lst_at {α : Type} {El : World → Nat → List Value → α → Prop} {e : TypeId} {size base m c : Nat} {W : World} {A : Option Addr} {l : List α} (h : LstIs El e size W base (.slice A m c) l) (hs : ∀ cs x, El W base cs x → cs.length = size) (j : Nat) (hj : j < l.length) :
  ∃ g cs, A = some ⟨g, 0, none⟩ ∧ g < W.heap.size ∧ El W base cs l[j] ∧ ∀ k u, cs[k]? = some u → W.cell? ⟨g, j * size + k, none⟩ = some u := by
 obtain ⟨us, h1, h2, h3⟩ := h
 obtain ⟨A', c', e1, h4⟩ := own_form h2
 injection e1 with e1 _ _
 subst e1
 obtain ⟨g, rfl, hg, h4⟩ := h4 (by omega)
 have hj' : j < us.length := by omega
 have hall : ∀ u ∈ us, u.length = size := fun u hu => by
  obtain ⟨i, hi, rfl⟩ := List.getElem_of_mem hu
  exact hs _ _ (h3 i (by omega) hi)
 refine ⟨g, us[j], rfl, hg, h3 j hj hj', fun k u hu => h4 _ _ ?_⟩
 have hk : k < size := by
  have := (List.getElem?_eq_some_iff.1 hu).1
  rw [hall _ (List.getElem_mem hj')] at this
  exact this
 rw [flat_at hall j hj' k hk]
 exact hu
theorem InEl.len {W : World} {base : Nat} : ∀ cs x, InEl W base cs x → cs.length = 3 := fun _ _ ⟨_, h, _⟩ => by rw [h]; rfl
theorem JbEl.len {W : World} {base : Nat} : ∀ cs x, JbEl W base cs x → cs.length = 15 := fun _ _ ⟨_, _, _, h, _⟩ => by rw [h]; rfl
theorem PbEl.len {W : World} {base : Nat} : ∀ cs x, PbEl W base cs x → cs.length = 3 := fun _ _ h => by rw [h]; rfl
end Go.Proofs.YtnjjajanfedjiaaGreatDoor
