/- A job's text. What the cutter's tokens are like: plain. What a flow that was read is like: plain. -/
import Derived.Test.YtdmboaoeholkpaaDoorFlwM12
import Derived.Test.YtdmboaoeholkpaaDoorShTab
import Derived.Test.YtdmboaoeholkpaaDoorFlwM3
import Derived.Lib.IndexLaws
import Derived.Lib.ItoaLen
namespace Go.Proofs.YtdmboaoeholkpaaDoor
open Go.RowKit Go.BigFrame
attribute [local go_sem] bs_size bs_extract bs_append bs_toList KW.cell
theorem bs_lt0 (a : Bs) : bs a ++ ⟨#[46]⟩ = bs (a ++ [46]) := bs_append a [46]
theorem bs_lt1 (a : Bs) : bs a ++ ⟨#[44, 32]⟩ = bs (a ++ [44, 32]) := bs_append a [44, 32]
theorem bs_lt2 (a : Bs) : bs a ++ ⟨#[32]⟩ = bs (a ++ [32]) := bs_append a [32]
theorem bs_lt3 (a : Bs) : bs a ++ ⟨#[32, 119, 104, 101, 114, 101, 32]⟩ = bs (a ++ [32, 119, 104, 101, 114, 101, 32]) := bs_append a [32, 119, 104, 101, 114, 101, 32]
theorem bs_lt4 (a : Bs) : bs a ++ ⟨#[58, 32]⟩ = bs (a ++ [58, 32]) := bs_append a [58, 32]
theorem bs_lt5 (a : Bs) : bs a ++ ⟨#[32, 61, 32]⟩ = bs (a ++ [32, 61, 32]) := bs_append a [32, 61, 32]
theorem bs_lt6 (a : Bs) : bs a ++ ⟨#[32, 98, 121, 32]⟩ = bs (a ++ [32, 98, 121, 32]) := bs_append a [32, 98, 121, 32]
attribute [local go_sem] bs_lt0 bs_lt1 bs_lt2 bs_lt3 bs_lt4 bs_lt5 bs_lt6
/-- An argument that may be written. -/
def ArW (a : Ar) : Prop := numOk a.val.num ∧ a.val.word.length ≤ 1000000000
def arV (a : Ar) : Value := .agg #[.string (bs a.col), .int .i64 a.val.kind, .int .i64 a.val.num, .string (bs a.val.word)]
set_option maxRecDepth 100000 in
set_option maxHeartbeats 1000000 in
theorem argText_any (a : Ar) (ha : ArW a) (w : World) (hE : FEnv w) :
    Calls Tryd.prog 28 #[arV a] w fun e w' => e = .returned (.string (bs (argT a))) ∧ Keeps [] w w' := by
  obtain ⟨s, v⟩ := a
  obtain ⟨k, n, u⟩ := v
  show Calls _ _ #[.agg #[.string (bs s), .int .i64 k, .int .i64 n, .string (bs u)]] w _
  have HV := Lib.hid (fun W hW => value_p10 ⟨k, n, u⟩ ha.1 ha.2 W (FEnv.p10 hW))
  have HE := Lib.hid hE
  clear hE ha
  by_cases h : s = []
  · have HT : Hid (argT ⟨s, ⟨k, n, u⟩⟩ = valueL ⟨k, n, u⟩) := Lib.hid (if_pos h)
    subst h
    go_enter Tryd.func28, Tryd.ntmps28
    go_wp2_with fail
    refine (HV.out _ (HE.out.quiet ((Keeps.refl _ _).alloc _))).mono ?_
    rintro e w' ⟨rfl, hk⟩
    go_wp2
    go_ret
    exact ⟨by rw [HT.out]; rfl, ((Keeps.refl _ _).alloc _).trans hk⟩
  · have HT : Hid (argT ⟨s, ⟨k, n, u⟩⟩ = s) := Lib.hid (if_neg h)
    have h1 : List.isEmpty s = false := by
      cases s with
      | nil => exact absurd rfl h
      | cons c t => rfl
    clear h
    go_enter Tryd.func28, Tryd.ntmps28
    go_wp2
    go_ret
    exact ⟨by rw [HT.out]; rfl, (Keeps.refl _ _).alloc _⟩
theorem joinS_any (l : List Bs) (hne : l ≠ []) (hl : l.length ≤ 1000000) (hlen : (joinCm l).length ≤ 1000000000) (A : Option Addr) (c : Nat) (w : World) (base : Nat) (h : w.ownsRow base 9 1 (.slice A l.length c) l.length (strs l)) :
    Calls Tryd.prog 14 #[.slice A l.length c, .string (bs [44, 32])] w fun e w' => e = .returned (.string (bs (joinCm l))) ∧ Keeps [] w w' := by
  obtain ⟨A', c', e, hx⟩ := own_form h
  injection e with e1 e2 e3
  subst e1 e3
  obtain ⟨g, rfl, hg, hx⟩ := hx (by cases l with
    | nil => exact absurd rfl hne
    | cons a t => simp)
  have hcp : l.length ≤ c := by
    rcases h.2 with ⟨h1, _⟩ | ⟨_, _, _, h1, _, _, h2, _⟩
    · cases h1
    · injection h1 with _ _ h1; rw [h1]; exact h2
  have hml : (l.map bs).length = l.length := by simp
  have hmm : (l.map bs).map (·.data.toList) = l := by
    rw [List.map_map]
    exact (List.map_congr_left (fun a _ => rfl)).trans (List.map_id l)
  have HJ := Tryd.strings_Join g 0 c (l.map bs) (bs [44, 32]) w (fun j x hx' => by
    rw [Nat.zero_add]
    refine hx j _ ?_
    unfold strs
    rw [List.getElem?_map]
    rw [List.getElem?_map] at hx'
    cases hr : l[j]? with
    | none => rw [hr] at hx'; cases hx'
    | some y => rw [hr] at hx'; cases hx'; rfl) hg (by rw [hml]; omega) (by rw [hml]; exact hcp) (by
      rw [hmm]
      exact Nat.le_trans hlen (by decide))
  rw [hml, hmm] at HJ
  exact HJ.mono fun e w' ⟨h1, h2⟩ => ⟨h1, (Keeps.refl [] w).under h2⟩
set_option maxRecDepth 100000 in
set_option maxHeartbeats 4000000 in
theorem text_7 (at_ : Int) (outs : List Bs) (a0 a1 d0 d1 : Bs) (op : Bs) (left right : Ar) (retry : Int) (base : Nat) (v2 v3 v4 : Value) (w : World) (hE : FEnv w) (hl : ArW left) (hr : ArW right) (hlen : a0.length ≤ 1000000 ∧ a1.length ≤ 1000000 ∧ d0.length ≤ 1000000 ∧ d1.length ≤ 1000000 ∧ op.length ≤ 1000000 ∧ left.col.length ≤ 1000000 ∧ (argT left).length ≤ 1000000 ∧ (argT right).length ≤ 1000000) (h : JRows w base ⟨at_, 7, outs, [a0, a1], [d0, d1], op, left, right, retry⟩ v2 v3 v4) :
    Calls Tryd.prog 16 #[.agg (jbCells ⟨at_, 7, outs, [a0, a1], [d0, d1], op, left, right, retry⟩ v2 v3 v4)] w fun e w' => e = .returned (.string (bs (textJ ⟨at_, 7, outs, [a0, a1], [d0, d1], op, left, right, retry⟩))) ∧ Keeps [] w w' := by
  obtain ⟨len_a0, len_a1, len_d0, len_d1, len_op, len_lc, len_al, len_ar⟩ := hlen
  obtain ⟨TL, hTL⟩ : ∃ t, argT left = t := ⟨_, rfl⟩
  obtain ⟨TR, hTR⟩ : ∃ t, argT right = t := ⟨_, rfl⟩
  rw [hTL] at len_al
  rw [hTR] at len_ar
  have HTL := Lib.hid hTL
  have HTR := Lib.hid hTR
  obtain ⟨A2, c2, rfl, -⟩ := own_form h.o2
  obtain ⟨A3, c3, rfl, hi⟩ := own_form h.o3
  obtain ⟨g3, rfl, lg3, hi⟩ := hi (by simp)
  have i0 : w.cell? ⟨g3, 0, none⟩ = some (.string (bs a0)) := hi 0 _ rfl
  have i1 : w.cell? ⟨g3, 1, none⟩ = some (.string (bs a1)) := hi 1 _ rfl
  have hi3 : (2 : Nat) ≤ c3 := by
    rcases h.o3.2 with ⟨h1, _⟩ | ⟨_, _, _, h1, _, _, h2, _⟩
    · cases h1
    · injection h1 with _ _ h1; rw [h1]; exact h2
  obtain ⟨A4, c4, rfl, hj⟩ := own_form h.o4
  obtain ⟨g4, rfl, lg4, hj⟩ := hj (by simp)
  have j0 : w.cell? ⟨g4, 0, none⟩ = some (.string (bs d0)) := hj 0 _ rfl
  have j1 : w.cell? ⟨g4, 1, none⟩ = some (.string (bs d1)) := hj 1 _ rfl
  have hj4 : (2 : Nat) ≤ c4 := by
    rcases h.o4.2 with ⟨h1, _⟩ | ⟨_, _, _, h1, _, _, h2, _⟩
    · cases h1
    · injection h1 with _ _ h1; rw [h1]; exact h2
  have wd : w.cell? ⟨0, 7, none⟩ = some (.string (bs [106, 111, 105, 110])) := hE.words 7 (by decide)
  have lwd := World.block_lt_of_cell? _ _ wd
  have HE := Lib.hid hE
  have HAL := Lib.hid (fun W hW => (by have h := argText_any left hl W hW; rw [hTL] at h; exact h : Calls Tryd.prog 28 #[arV left] W fun e w' => e = .returned (.string (bs TL)) ∧ Keeps [] W w'))
  have HAR := Lib.hid (fun W hW => (by have h := argText_any right hr W hW; rw [hTR] at h; exact h : Calls Tryd.prog 28 #[arV right] W fun e w' => e = .returned (.string (bs TR)) ∧ Keeps [] W w'))
  have HH := Lib.hid h
  unfold arV at HAL HAR
  clear hE hl hr h hTL hTR hi hj
  unfold jbCells
  go_enter Tryd.func16, Tryd.ntmps16
  go_upto_region 4 with (fail)
  have hb := Blk.new w 71 #[.int .i64 at_, .int .i64 7, .slice A2 outs.length c2, .slice (some ⟨g3, 0, none⟩) 2 c3, .slice (some ⟨g4, 0, none⟩) 2 c4, .string (bs op), .string (bs left.col), .int .i64 left.val.kind, .int .i64 left.val.num, .string (bs left.val.word), .string (bs right.col), .int .i64 right.val.kind, .int .i64 right.val.num, .string (bs right.val.word), .int .i64 retry]
  have hk0 := (Keeps.refl [] w).alloc (.cells #[.int .i64 at_, .int .i64 7, .slice A2 outs.length c2, .slice (some ⟨g3, 0, none⟩) 2 c3, .slice (some ⟨g4, 0, none⟩) 2 c4, .string (bs op), .string (bs left.col), .int .i64 left.val.kind, .int .i64 left.val.num, .string (bs left.val.word), .string (bs right.col), .int .i64 right.val.kind, .int .i64 right.val.num, .string (bs right.val.word), .int .i64 retry] 71)
  obtain ⟨y0, hy0⟩ : ∃ x, w.alloc (.cells #[.int .i64 at_, .int .i64 7, .slice A2 outs.length c2, .slice (some ⟨g3, 0, none⟩) 2 c3, .slice (some ⟨g4, 0, none⟩) 2 c4, .string (bs op), .string (bs left.col), .int .i64 left.val.kind, .int .i64 left.val.num, .string (bs left.val.word), .string (bs right.col), .int .i64 right.val.kind, .int .i64 right.val.num, .string (bs right.val.word), .int .i64 retry] 71) = x := ⟨_, rfl⟩
  rw [hy0] at hb hk0 ⊢
  obtain ⟨jb, hjb⟩ : ∃ x, w.heap.size = x := ⟨_, rfl⟩
  rw [hjb] at hb ⊢
  have HK0 := Lib.hid hk0
  have y3 : y0.cell? ⟨jb, 3, none⟩ = some (.slice (some ⟨g3, 0, none⟩) 2 c3) := hb.cell 3
  have y4 : y0.cell? ⟨jb, 4, none⟩ = some (.slice (some ⟨g4, 0, none⟩) 2 c4) := hb.cell 4
  have ly := hb.lt
  have p0 := hk0.cell_of i0 (by simp)
  have p1 := hk0.cell_of i1 (by simp)
  have q0 := hk0.cell_of j0 (by simp)
  have q1 := hk0.cell_of j1 (by simp)
  have lg3 : g3 < y0.heap.size := World.block_lt_of_cell? _ _ p0
  have lg4 : g4 < y0.heap.size := World.block_lt_of_cell? _ _ q0
  clear hb hk0 hy0 hjb wd lwd i0 i1 j0 j1 HH
  refine wp_region_keeps (by kernel_rfl) (by kernel_rfl) ?_
  repeat (go_big_quiet_step (fail))
  refine wpQuiet_nil ?_
  intro wx kx
  go_wp2
  go_ret
  refine ⟨congrArg (fun l => Ending.returned (.string (bs l))) (?_ : _ = _), HK0.out.trans kx⟩
  simp [textJ, wordW, wordsL, HTL.out, HTR.out]
set_option maxRecDepth 100000 in
set_option maxHeartbeats 4000000 in
theorem text_5 (at_ : Int) (outs : List Bs) (a0 a1 : Bs) (op : Bs) (left right : Ar) (retry : Int) (base : Nat) (v2 v3 v4 : Value) (w : World) (hE : FEnv w) (hl : ArW left) (hr : ArW right) (hlen : a0.length ≤ 1000000 ∧ a1.length ≤ 1000000 ∧ op.length ≤ 1000000 ∧ left.col.length ≤ 1000000 ∧ (argT left).length ≤ 1000000 ∧ (argT right).length ≤ 1000000) (h : JRows w base ⟨at_, 5, outs, [a0, a1], [], op, left, right, retry⟩ v2 v3 v4) :
    Calls Tryd.prog 16 #[.agg (jbCells ⟨at_, 5, outs, [a0, a1], [], op, left, right, retry⟩ v2 v3 v4)] w fun e w' => e = .returned (.string (bs (textJ ⟨at_, 5, outs, [a0, a1], [], op, left, right, retry⟩))) ∧ Keeps [] w w' := by
  obtain ⟨len_a0, len_a1, len_op, len_lc, len_al, len_ar⟩ := hlen
  obtain ⟨TL, hTL⟩ : ∃ t, argT left = t := ⟨_, rfl⟩
  obtain ⟨TR, hTR⟩ : ∃ t, argT right = t := ⟨_, rfl⟩
  rw [hTL] at len_al
  rw [hTR] at len_ar
  have HTL := Lib.hid hTL
  have HTR := Lib.hid hTR
  obtain ⟨A2, c2, rfl, -⟩ := own_form h.o2
  obtain ⟨A3, c3, rfl, hi⟩ := own_form h.o3
  obtain ⟨g3, rfl, lg3, hi⟩ := hi (by simp)
  have i0 : w.cell? ⟨g3, 0, none⟩ = some (.string (bs a0)) := hi 0 _ rfl
  have i1 : w.cell? ⟨g3, 1, none⟩ = some (.string (bs a1)) := hi 1 _ rfl
  have hi3 : (2 : Nat) ≤ c3 := by
    rcases h.o3.2 with ⟨h1, _⟩ | ⟨_, _, _, h1, _, _, h2, _⟩
    · cases h1
    · injection h1 with _ _ h1; rw [h1]; exact h2
  obtain ⟨A4, c4, rfl, -⟩ := own_form h.o4
  have wd : w.cell? ⟨0, 5, none⟩ = some (.string (bs [117, 110, 105, 111, 110])) := hE.words 5 (by decide)
  have lwd := World.block_lt_of_cell? _ _ wd
  have HE := Lib.hid hE
  have HAL := Lib.hid (fun W hW => (by have h := argText_any left hl W hW; rw [hTL] at h; exact h : Calls Tryd.prog 28 #[arV left] W fun e w' => e = .returned (.string (bs TL)) ∧ Keeps [] W w'))
  have HAR := Lib.hid (fun W hW => (by have h := argText_any right hr W hW; rw [hTR] at h; exact h : Calls Tryd.prog 28 #[arV right] W fun e w' => e = .returned (.string (bs TR)) ∧ Keeps [] W w'))
  have HH := Lib.hid h
  unfold arV at HAL HAR
  clear hE hl hr h hTL hTR hi
  unfold jbCells
  go_enter Tryd.func16, Tryd.ntmps16
  go_upto_region 6 with (fail)
  have hb := Blk.new w 71 #[.int .i64 at_, .int .i64 5, .slice A2 outs.length c2, .slice (some ⟨g3, 0, none⟩) 2 c3, .slice A4 0 c4, .string (bs op), .string (bs left.col), .int .i64 left.val.kind, .int .i64 left.val.num, .string (bs left.val.word), .string (bs right.col), .int .i64 right.val.kind, .int .i64 right.val.num, .string (bs right.val.word), .int .i64 retry]
  have hk0 := (Keeps.refl [] w).alloc (.cells #[.int .i64 at_, .int .i64 5, .slice A2 outs.length c2, .slice (some ⟨g3, 0, none⟩) 2 c3, .slice A4 0 c4, .string (bs op), .string (bs left.col), .int .i64 left.val.kind, .int .i64 left.val.num, .string (bs left.val.word), .string (bs right.col), .int .i64 right.val.kind, .int .i64 right.val.num, .string (bs right.val.word), .int .i64 retry] 71)
  obtain ⟨y0, hy0⟩ : ∃ x, w.alloc (.cells #[.int .i64 at_, .int .i64 5, .slice A2 outs.length c2, .slice (some ⟨g3, 0, none⟩) 2 c3, .slice A4 0 c4, .string (bs op), .string (bs left.col), .int .i64 left.val.kind, .int .i64 left.val.num, .string (bs left.val.word), .string (bs right.col), .int .i64 right.val.kind, .int .i64 right.val.num, .string (bs right.val.word), .int .i64 retry] 71) = x := ⟨_, rfl⟩
  rw [hy0] at hb hk0 ⊢
  obtain ⟨jb, hjb⟩ : ∃ x, w.heap.size = x := ⟨_, rfl⟩
  rw [hjb] at hb ⊢
  have HK0 := Lib.hid hk0
  have y3 : y0.cell? ⟨jb, 3, none⟩ = some (.slice (some ⟨g3, 0, none⟩) 2 c3) := hb.cell 3
  have ly := hb.lt
  have p0 := hk0.cell_of i0 (by simp)
  have p1 := hk0.cell_of i1 (by simp)
  have lg3 : g3 < y0.heap.size := World.block_lt_of_cell? _ _ p0
  clear hb hk0 hy0 hjb wd lwd i0 i1  HH
  refine wp_region_keeps (by kernel_rfl) (by kernel_rfl) ?_
  repeat (go_big_quiet_step (fail))
  refine wpQuiet_nil ?_
  intro wx kx
  go_wp2
  go_ret
  refine ⟨congrArg (fun l => Ending.returned (.string (bs l))) (?_ : _ = _), HK0.out.trans kx⟩
  simp [textJ, wordW, wordsL, HTL.out, HTR.out]
set_option maxRecDepth 100000 in
set_option maxHeartbeats 4000000 in
theorem text_6 (at_ : Int) (outs : List Bs) (a0 : Bs) (op : Bs) (left right : Ar) (retry : Int) (base : Nat) (v2 v3 v4 : Value) (w : World) (hE : FEnv w) (hl : ArW left) (hr : ArW right) (hlen : a0.length ≤ 1000000 ∧ op.length ≤ 1000000 ∧ left.col.length ≤ 1000000 ∧ (argT left).length ≤ 1000000 ∧ (argT right).length ≤ 1000000) (h : JRows w base ⟨at_, 6, outs, [a0], [], op, left, right, retry⟩ v2 v3 v4) :
    Calls Tryd.prog 16 #[.agg (jbCells ⟨at_, 6, outs, [a0], [], op, left, right, retry⟩ v2 v3 v4)] w fun e w' => e = .returned (.string (bs (textJ ⟨at_, 6, outs, [a0], [], op, left, right, retry⟩))) ∧ Keeps [] w w' := by
  obtain ⟨len_a0, len_op, len_lc, len_al, len_ar⟩ := hlen
  obtain ⟨TL, hTL⟩ : ∃ t, argT left = t := ⟨_, rfl⟩
  obtain ⟨TR, hTR⟩ : ∃ t, argT right = t := ⟨_, rfl⟩
  rw [hTL] at len_al
  rw [hTR] at len_ar
  have HTL := Lib.hid hTL
  have HTR := Lib.hid hTR
  obtain ⟨A2, c2, rfl, -⟩ := own_form h.o2
  obtain ⟨A3, c3, rfl, hi⟩ := own_form h.o3
  obtain ⟨g3, rfl, lg3, hi⟩ := hi (by simp)
  have i0 : w.cell? ⟨g3, 0, none⟩ = some (.string (bs a0)) := hi 0 _ rfl
  have hi3 : (1 : Nat) ≤ c3 := by
    rcases h.o3.2 with ⟨h1, _⟩ | ⟨_, _, _, h1, _, _, h2, _⟩
    · cases h1
    · injection h1 with _ _ h1; rw [h1]; exact h2
  obtain ⟨A4, c4, rfl, -⟩ := own_form h.o4
  have wd : w.cell? ⟨0, 6, none⟩ = some (.string (bs [100, 105, 115, 116, 105, 110, 99, 116])) := hE.words 6 (by decide)
  have lwd := World.block_lt_of_cell? _ _ wd
  have HE := Lib.hid hE
  have HAL := Lib.hid (fun W hW => (by have h := argText_any left hl W hW; rw [hTL] at h; exact h : Calls Tryd.prog 28 #[arV left] W fun e w' => e = .returned (.string (bs TL)) ∧ Keeps [] W w'))
  have HAR := Lib.hid (fun W hW => (by have h := argText_any right hr W hW; rw [hTR] at h; exact h : Calls Tryd.prog 28 #[arV right] W fun e w' => e = .returned (.string (bs TR)) ∧ Keeps [] W w'))
  have HH := Lib.hid h
  unfold arV at HAL HAR
  clear hE hl hr h hTL hTR hi
  unfold jbCells
  go_enter Tryd.func16, Tryd.ntmps16
  go_wp2
  go_ret
  refine ⟨congrArg (fun l => Ending.returned (.string (bs l))) (?_ : _ = _), (Keeps.refl _ _).alloc _⟩
  simp [textJ, wordW, wordsL, HTL.out, HTR.out]
set_option maxRecDepth 100000 in
set_option maxHeartbeats 4000000 in
theorem text_8 (at_ : Int) (outs : List Bs) (a0 d0 d1 : Bs) (op : Bs) (left right : Ar) (retry : Int) (base : Nat) (v2 v3 v4 : Value) (w : World) (hE : FEnv w) (hl : ArW left) (hr : ArW right) (hlen : a0.length ≤ 1000000 ∧ d0.length ≤ 1000000 ∧ d1.length ≤ 1000000 ∧ op.length ≤ 1000000 ∧ left.col.length ≤ 1000000 ∧ (argT left).length ≤ 1000000 ∧ (argT right).length ≤ 1000000) (h : JRows w base ⟨at_, 8, outs, [a0], [d0, d1], op, left, right, retry⟩ v2 v3 v4) :
    Calls Tryd.prog 16 #[.agg (jbCells ⟨at_, 8, outs, [a0], [d0, d1], op, left, right, retry⟩ v2 v3 v4)] w fun e w' => e = .returned (.string (bs (textJ ⟨at_, 8, outs, [a0], [d0, d1], op, left, right, retry⟩))) ∧ Keeps [] w w' := by
  obtain ⟨len_a0, len_d0, len_d1, len_op, len_lc, len_al, len_ar⟩ := hlen
  obtain ⟨TL, hTL⟩ : ∃ t, argT left = t := ⟨_, rfl⟩
  obtain ⟨TR, hTR⟩ : ∃ t, argT right = t := ⟨_, rfl⟩
  rw [hTL] at len_al
  rw [hTR] at len_ar
  have HTL := Lib.hid hTL
  have HTR := Lib.hid hTR
  obtain ⟨A2, c2, rfl, -⟩ := own_form h.o2
  obtain ⟨A3, c3, rfl, hi⟩ := own_form h.o3
  obtain ⟨g3, rfl, lg3, hi⟩ := hi (by simp)
  have i0 : w.cell? ⟨g3, 0, none⟩ = some (.string (bs a0)) := hi 0 _ rfl
  have hi3 : (1 : Nat) ≤ c3 := by
    rcases h.o3.2 with ⟨h1, _⟩ | ⟨_, _, _, h1, _, _, h2, _⟩
    · cases h1
    · injection h1 with _ _ h1; rw [h1]; exact h2
  obtain ⟨A4, c4, rfl, hj⟩ := own_form h.o4
  obtain ⟨g4, rfl, lg4, hj⟩ := hj (by simp)
  have j0 : w.cell? ⟨g4, 0, none⟩ = some (.string (bs d0)) := hj 0 _ rfl
  have j1 : w.cell? ⟨g4, 1, none⟩ = some (.string (bs d1)) := hj 1 _ rfl
  have hj4 : (2 : Nat) ≤ c4 := by
    rcases h.o4.2 with ⟨h1, _⟩ | ⟨_, _, _, h1, _, _, h2, _⟩
    · cases h1
    · injection h1 with _ _ h1; rw [h1]; exact h2
  have wd : w.cell? ⟨0, 8, none⟩ = some (.string (bs [103, 114, 111, 117, 112])) := hE.words 8 (by decide)
  have lwd := World.block_lt_of_cell? _ _ wd
  have HE := Lib.hid hE
  have HAL := Lib.hid (fun W hW => (by have h := argText_any left hl W hW; rw [hTL] at h; exact h : Calls Tryd.prog 28 #[arV left] W fun e w' => e = .returned (.string (bs TL)) ∧ Keeps [] W w'))
  have HAR := Lib.hid (fun W hW => (by have h := argText_any right hr W hW; rw [hTR] at h; exact h : Calls Tryd.prog 28 #[arV right] W fun e w' => e = .returned (.string (bs TR)) ∧ Keeps [] W w'))
  have HH := Lib.hid h
  unfold arV at HAL HAR
  clear hE hl hr h hTL hTR hi hj
  unfold jbCells
  go_enter Tryd.func16, Tryd.ntmps16
  go_upto_region 18 with (fail)
  have hb := Blk.new w 71 #[.int .i64 at_, .int .i64 8, .slice A2 outs.length c2, .slice (some ⟨g3, 0, none⟩) 1 c3, .slice (some ⟨g4, 0, none⟩) 2 c4, .string (bs op), .string (bs left.col), .int .i64 left.val.kind, .int .i64 left.val.num, .string (bs left.val.word), .string (bs right.col), .int .i64 right.val.kind, .int .i64 right.val.num, .string (bs right.val.word), .int .i64 retry]
  have hk0 := (Keeps.refl [] w).alloc (.cells #[.int .i64 at_, .int .i64 8, .slice A2 outs.length c2, .slice (some ⟨g3, 0, none⟩) 1 c3, .slice (some ⟨g4, 0, none⟩) 2 c4, .string (bs op), .string (bs left.col), .int .i64 left.val.kind, .int .i64 left.val.num, .string (bs left.val.word), .string (bs right.col), .int .i64 right.val.kind, .int .i64 right.val.num, .string (bs right.val.word), .int .i64 retry] 71)
  obtain ⟨y0, hy0⟩ : ∃ x, w.alloc (.cells #[.int .i64 at_, .int .i64 8, .slice A2 outs.length c2, .slice (some ⟨g3, 0, none⟩) 1 c3, .slice (some ⟨g4, 0, none⟩) 2 c4, .string (bs op), .string (bs left.col), .int .i64 left.val.kind, .int .i64 left.val.num, .string (bs left.val.word), .string (bs right.col), .int .i64 right.val.kind, .int .i64 right.val.num, .string (bs right.val.word), .int .i64 retry] 71) = x := ⟨_, rfl⟩
  rw [hy0] at hb hk0 ⊢
  obtain ⟨jb, hjb⟩ : ∃ x, w.heap.size = x := ⟨_, rfl⟩
  rw [hjb] at hb ⊢
  have HK0 := Lib.hid hk0
  have y4 : y0.cell? ⟨jb, 4, none⟩ = some (.slice (some ⟨g4, 0, none⟩) 2 c4) := hb.cell 4
  have y5 : y0.cell? ⟨jb, 5, none⟩ = some (.string (bs op)) := hb.cell 5
  have ly := hb.lt
  have p0 := hk0.cell_of i0 (by simp)
  have q0 := hk0.cell_of j0 (by simp)
  have q1 := hk0.cell_of j1 (by simp)
  have lg3 : g3 < y0.heap.size := World.block_lt_of_cell? _ _ p0
  have lg4 : g4 < y0.heap.size := World.block_lt_of_cell? _ _ q0
  clear hb hk0 hy0 hjb wd lwd i0 j0 j1 HH
  refine wp_region_keeps (by kernel_rfl) (by kernel_rfl) ?_
  repeat (go_big_quiet_step (fail))
  refine wpQuiet_nil ?_
  intro wx kx
  go_wp2
  go_ret
  refine ⟨congrArg (fun l => Ending.returned (.string (bs l))) (?_ : _ = _), HK0.out.trans kx⟩
  simp [textJ, wordW, wordsL, HTL.out, HTR.out]
set_option maxRecDepth 100000 in
set_option maxHeartbeats 4000000 in
theorem text_1 (at_ : Int) (outs : List Bs) (a0 : Bs) (op : Bs) (left right : Ar) (retry : Int) (base : Nat) (v2 v3 v4 : Value) (w : World) (hE : FEnv w) (hl : ArW left) (hr : ArW right) (hlen : a0.length ≤ 1000000 ∧ op.length ≤ 1000000 ∧ left.col.length ≤ 1000000 ∧ (argT left).length ≤ 1000000 ∧ (argT right).length ≤ 1000000) (h : JRows w base ⟨at_, 1, outs, [a0], [], op, left, right, retry⟩ v2 v3 v4) :
    Calls Tryd.prog 16 #[.agg (jbCells ⟨at_, 1, outs, [a0], [], op, left, right, retry⟩ v2 v3 v4)] w fun e w' => e = .returned (.string (bs (textJ ⟨at_, 1, outs, [a0], [], op, left, right, retry⟩))) ∧ Keeps [] w w' := by
  obtain ⟨len_a0, len_op, len_lc, len_al, len_ar⟩ := hlen
  obtain ⟨TL, hTL⟩ : ∃ t, argT left = t := ⟨_, rfl⟩
  obtain ⟨TR, hTR⟩ : ∃ t, argT right = t := ⟨_, rfl⟩
  rw [hTL] at len_al
  rw [hTR] at len_ar
  have HTL := Lib.hid hTL
  have HTR := Lib.hid hTR
  obtain ⟨A2, c2, rfl, -⟩ := own_form h.o2
  obtain ⟨A3, c3, rfl, hi⟩ := own_form h.o3
  obtain ⟨g3, rfl, lg3, hi⟩ := hi (by simp)
  have i0 : w.cell? ⟨g3, 0, none⟩ = some (.string (bs a0)) := hi 0 _ rfl
  have hi3 : (1 : Nat) ≤ c3 := by
    rcases h.o3.2 with ⟨h1, _⟩ | ⟨_, _, _, h1, _, _, h2, _⟩
    · cases h1
    · injection h1 with _ _ h1; rw [h1]; exact h2
  obtain ⟨A4, c4, rfl, -⟩ := own_form h.o4
  have wd : w.cell? ⟨0, 1, none⟩ = some (.string (bs [102, 105, 108, 116, 101, 114])) := hE.words 1 (by decide)
  have lwd := World.block_lt_of_cell? _ _ wd
  have HE := Lib.hid hE
  have HAL := Lib.hid (fun W hW => (by have h := argText_any left hl W hW; rw [hTL] at h; exact h : Calls Tryd.prog 28 #[arV left] W fun e w' => e = .returned (.string (bs TL)) ∧ Keeps [] W w'))
  have HAR := Lib.hid (fun W hW => (by have h := argText_any right hr W hW; rw [hTR] at h; exact h : Calls Tryd.prog 28 #[arV right] W fun e w' => e = .returned (.string (bs TR)) ∧ Keeps [] W w'))
  have HH := Lib.hid h
  unfold arV at HAL HAR
  clear hE hl hr h hTL hTR hi
  unfold jbCells
  go_enter Tryd.func16, Tryd.ntmps16
  go_upto_region 11 with (fail)
  have hb := Blk.new w 71 #[.int .i64 at_, .int .i64 1, .slice A2 outs.length c2, .slice (some ⟨g3, 0, none⟩) 1 c3, .slice A4 0 c4, .string (bs op), .string (bs left.col), .int .i64 left.val.kind, .int .i64 left.val.num, .string (bs left.val.word), .string (bs right.col), .int .i64 right.val.kind, .int .i64 right.val.num, .string (bs right.val.word), .int .i64 retry]
  have hk0 := (Keeps.refl [] w).alloc (.cells #[.int .i64 at_, .int .i64 1, .slice A2 outs.length c2, .slice (some ⟨g3, 0, none⟩) 1 c3, .slice A4 0 c4, .string (bs op), .string (bs left.col), .int .i64 left.val.kind, .int .i64 left.val.num, .string (bs left.val.word), .string (bs right.col), .int .i64 right.val.kind, .int .i64 right.val.num, .string (bs right.val.word), .int .i64 retry] 71)
  obtain ⟨y0, hy0⟩ : ∃ x, w.alloc (.cells #[.int .i64 at_, .int .i64 1, .slice A2 outs.length c2, .slice (some ⟨g3, 0, none⟩) 1 c3, .slice A4 0 c4, .string (bs op), .string (bs left.col), .int .i64 left.val.kind, .int .i64 left.val.num, .string (bs left.val.word), .string (bs right.col), .int .i64 right.val.kind, .int .i64 right.val.num, .string (bs right.val.word), .int .i64 retry] 71) = x := ⟨_, rfl⟩
  rw [hy0] at hb hk0 ⊢
  obtain ⟨jb, hjb⟩ : ∃ x, w.heap.size = x := ⟨_, rfl⟩
  rw [hjb] at hb ⊢
  have HK0 := Lib.hid hk0
  have y5 : y0.cell? ⟨jb, 5, none⟩ = some (.string (bs op)) := hb.cell 5
  have y6 : y0.cell? ⟨jb, 6, none⟩ = some (.string (bs left.col)) := hb.cell 6
  have y7 : y0.cell? ⟨jb, 7, none⟩ = some (.int .i64 left.val.kind) := hb.cell 7
  have y8 : y0.cell? ⟨jb, 8, none⟩ = some (.int .i64 left.val.num) := hb.cell 8
  have y9 : y0.cell? ⟨jb, 9, none⟩ = some (.string (bs left.val.word)) := hb.cell 9
  have y10 : y0.cell? ⟨jb, 10, none⟩ = some (.string (bs right.col)) := hb.cell 10
  have y11 : y0.cell? ⟨jb, 11, none⟩ = some (.int .i64 right.val.kind) := hb.cell 11
  have y12 : y0.cell? ⟨jb, 12, none⟩ = some (.int .i64 right.val.num) := hb.cell 12
  have y13 : y0.cell? ⟨jb, 13, none⟩ = some (.string (bs right.val.word)) := hb.cell 13
  have ly := hb.lt
  have p0 := hk0.cell_of i0 (by simp)
  have lg3 : g3 < y0.heap.size := World.block_lt_of_cell? _ _ p0
  clear hb hk0 hy0 hjb wd lwd i0  HH
  have HC1 : Hid (∀ W, Keeps [] y0 W → Calls Tryd.prog 28 #[.agg #[.string (bs right.col), .int .i64 right.val.kind, .int .i64 right.val.num, .string (bs right.val.word)]] W fun e W' => e = .returned (.string (bs TR)) ∧ Keeps [] W W') := Lib.hid (fun W q => HAR.out W (HE.out.quiet (HK0.out.trans q)))
  refine wp_region_keeps (by kernel_rfl) (by kernel_rfl) ?_
  repeat (go_big_quiet_step (with_reducible exact KW.of HC1.out _))
  refine wpQuiet_nil ?_
  intro wx kx
  go_wp2
  go_ret
  refine ⟨congrArg (fun l => Ending.returned (.string (bs l))) (?_ : _ = _), HK0.out.trans kx⟩
  simp [textJ, wordW, wordsL, HTL.out, HTR.out]
set_option maxRecDepth 100000 in
set_option maxHeartbeats 4000000 in
theorem text_9 (at_ : Int) (outs : List Bs) (a0 : Bs) (op : Bs) (left right : Ar) (retry : Int) (base : Nat) (v2 v3 v4 : Value) (w : World) (hE : FEnv w) (hl : ArW left) (hr : ArW right) (hlen : a0.length ≤ 1000000 ∧ op.length ≤ 1000000 ∧ left.col.length ≤ 1000000 ∧ (argT left).length ≤ 1000000 ∧ (argT right).length ≤ 1000000) (h : JRows w base ⟨at_, 9, outs, [a0], [], op, left, right, retry⟩ v2 v3 v4) :
    Calls Tryd.prog 16 #[.agg (jbCells ⟨at_, 9, outs, [a0], [], op, left, right, retry⟩ v2 v3 v4)] w fun e w' => e = .returned (.string (bs (textJ ⟨at_, 9, outs, [a0], [], op, left, right, retry⟩))) ∧ Keeps [] w w' := by
  obtain ⟨len_a0, len_op, len_lc, len_al, len_ar⟩ := hlen
  obtain ⟨TL, hTL⟩ : ∃ t, argT left = t := ⟨_, rfl⟩
  obtain ⟨TR, hTR⟩ : ∃ t, argT right = t := ⟨_, rfl⟩
  rw [hTL] at len_al
  rw [hTR] at len_ar
  have HTL := Lib.hid hTL
  have HTR := Lib.hid hTR
  obtain ⟨A2, c2, rfl, -⟩ := own_form h.o2
  obtain ⟨A3, c3, rfl, hi⟩ := own_form h.o3
  obtain ⟨g3, rfl, lg3, hi⟩ := hi (by simp)
  have i0 : w.cell? ⟨g3, 0, none⟩ = some (.string (bs a0)) := hi 0 _ rfl
  have hi3 : (1 : Nat) ≤ c3 := by
    rcases h.o3.2 with ⟨h1, _⟩ | ⟨_, _, _, h1, _, _, h2, _⟩
    · cases h1
    · injection h1 with _ _ h1; rw [h1]; exact h2
  obtain ⟨A4, c4, rfl, -⟩ := own_form h.o4
  have wd : w.cell? ⟨0, 9, none⟩ = some (.string (bs [115, 112, 108, 105, 116])) := hE.words 9 (by decide)
  have lwd := World.block_lt_of_cell? _ _ wd
  have HE := Lib.hid hE
  have HAL := Lib.hid (fun W hW => (by have h := argText_any left hl W hW; rw [hTL] at h; exact h : Calls Tryd.prog 28 #[arV left] W fun e w' => e = .returned (.string (bs TL)) ∧ Keeps [] W w'))
  have HAR := Lib.hid (fun W hW => (by have h := argText_any right hr W hW; rw [hTR] at h; exact h : Calls Tryd.prog 28 #[arV right] W fun e w' => e = .returned (.string (bs TR)) ∧ Keeps [] W w'))
  have HH := Lib.hid h
  unfold arV at HAL HAR
  clear hE hl hr h hTL hTR hi
  unfold jbCells
  go_enter Tryd.func16, Tryd.ntmps16
  go_upto_region 11 with (fail)
  have hb := Blk.new w 71 #[.int .i64 at_, .int .i64 9, .slice A2 outs.length c2, .slice (some ⟨g3, 0, none⟩) 1 c3, .slice A4 0 c4, .string (bs op), .string (bs left.col), .int .i64 left.val.kind, .int .i64 left.val.num, .string (bs left.val.word), .string (bs right.col), .int .i64 right.val.kind, .int .i64 right.val.num, .string (bs right.val.word), .int .i64 retry]
  have hk0 := (Keeps.refl [] w).alloc (.cells #[.int .i64 at_, .int .i64 9, .slice A2 outs.length c2, .slice (some ⟨g3, 0, none⟩) 1 c3, .slice A4 0 c4, .string (bs op), .string (bs left.col), .int .i64 left.val.kind, .int .i64 left.val.num, .string (bs left.val.word), .string (bs right.col), .int .i64 right.val.kind, .int .i64 right.val.num, .string (bs right.val.word), .int .i64 retry] 71)
  obtain ⟨y0, hy0⟩ : ∃ x, w.alloc (.cells #[.int .i64 at_, .int .i64 9, .slice A2 outs.length c2, .slice (some ⟨g3, 0, none⟩) 1 c3, .slice A4 0 c4, .string (bs op), .string (bs left.col), .int .i64 left.val.kind, .int .i64 left.val.num, .string (bs left.val.word), .string (bs right.col), .int .i64 right.val.kind, .int .i64 right.val.num, .string (bs right.val.word), .int .i64 retry] 71) = x := ⟨_, rfl⟩
  rw [hy0] at hb hk0 ⊢
  obtain ⟨jb, hjb⟩ : ∃ x, w.heap.size = x := ⟨_, rfl⟩
  rw [hjb] at hb ⊢
  have HK0 := Lib.hid hk0
  have y5 : y0.cell? ⟨jb, 5, none⟩ = some (.string (bs op)) := hb.cell 5
  have y6 : y0.cell? ⟨jb, 6, none⟩ = some (.string (bs left.col)) := hb.cell 6
  have y7 : y0.cell? ⟨jb, 7, none⟩ = some (.int .i64 left.val.kind) := hb.cell 7
  have y8 : y0.cell? ⟨jb, 8, none⟩ = some (.int .i64 left.val.num) := hb.cell 8
  have y9 : y0.cell? ⟨jb, 9, none⟩ = some (.string (bs left.val.word)) := hb.cell 9
  have y10 : y0.cell? ⟨jb, 10, none⟩ = some (.string (bs right.col)) := hb.cell 10
  have y11 : y0.cell? ⟨jb, 11, none⟩ = some (.int .i64 right.val.kind) := hb.cell 11
  have y12 : y0.cell? ⟨jb, 12, none⟩ = some (.int .i64 right.val.num) := hb.cell 12
  have y13 : y0.cell? ⟨jb, 13, none⟩ = some (.string (bs right.val.word)) := hb.cell 13
  have ly := hb.lt
  have p0 := hk0.cell_of i0 (by simp)
  have lg3 : g3 < y0.heap.size := World.block_lt_of_cell? _ _ p0
  clear hb hk0 hy0 hjb wd lwd i0  HH
  have HC1 : Hid (∀ W, Keeps [] y0 W → Calls Tryd.prog 28 #[.agg #[.string (bs right.col), .int .i64 right.val.kind, .int .i64 right.val.num, .string (bs right.val.word)]] W fun e W' => e = .returned (.string (bs TR)) ∧ Keeps [] W W') := Lib.hid (fun W q => HAR.out W (HE.out.quiet (HK0.out.trans q)))
  refine wp_region_keeps (by kernel_rfl) (by kernel_rfl) ?_
  repeat (go_big_quiet_step (with_reducible exact KW.of HC1.out _))
  refine wpQuiet_nil ?_
  intro wx kx
  go_wp2
  go_ret
  refine ⟨congrArg (fun l => Ending.returned (.string (bs l))) (?_ : _ = _), HK0.out.trans kx⟩
  simp [textJ, wordW, wordsL, HTL.out, HTR.out]
set_option maxRecDepth 100000 in
set_option maxHeartbeats 4000000 in
theorem text_2 (at_ : Int) (outs : List Bs) (a0 d0 : Bs) (op : Bs) (left right : Ar) (retry : Int) (base : Nat) (v2 v3 v4 : Value) (w : World) (hE : FEnv w) (hl : ArW left) (hr : ArW right) (hlen : a0.length ≤ 1000000 ∧ d0.length ≤ 1000000 ∧ op.length ≤ 1000000 ∧ left.col.length ≤ 1000000 ∧ (argT left).length ≤ 1000000 ∧ (argT right).length ≤ 1000000) (h : JRows w base ⟨at_, 2, outs, [a0], [d0], op, left, right, retry⟩ v2 v3 v4) :
    Calls Tryd.prog 16 #[.agg (jbCells ⟨at_, 2, outs, [a0], [d0], op, left, right, retry⟩ v2 v3 v4)] w fun e w' => e = .returned (.string (bs (textJ ⟨at_, 2, outs, [a0], [d0], op, left, right, retry⟩))) ∧ Keeps [] w w' := by
  obtain ⟨len_a0, len_d0, len_op, len_lc, len_al, len_ar⟩ := hlen
  obtain ⟨TL, hTL⟩ : ∃ t, argT left = t := ⟨_, rfl⟩
  obtain ⟨TR, hTR⟩ : ∃ t, argT right = t := ⟨_, rfl⟩
  rw [hTL] at len_al
  rw [hTR] at len_ar
  have HTL := Lib.hid hTL
  have HTR := Lib.hid hTR
  obtain ⟨A2, c2, rfl, -⟩ := own_form h.o2
  obtain ⟨A3, c3, rfl, hi⟩ := own_form h.o3
  obtain ⟨g3, rfl, lg3, hi⟩ := hi (by simp)
  have i0 : w.cell? ⟨g3, 0, none⟩ = some (.string (bs a0)) := hi 0 _ rfl
  have hi3 : (1 : Nat) ≤ c3 := by
    rcases h.o3.2 with ⟨h1, _⟩ | ⟨_, _, _, h1, _, _, h2, _⟩
    · cases h1
    · injection h1 with _ _ h1; rw [h1]; exact h2
  obtain ⟨A4, c4, rfl, hj⟩ := own_form h.o4
  obtain ⟨g4, rfl, lg4, hj⟩ := hj (by simp)
  have j0 : w.cell? ⟨g4, 0, none⟩ = some (.string (bs d0)) := hj 0 _ rfl
  have hj4 : (1 : Nat) ≤ c4 := by
    rcases h.o4.2 with ⟨h1, _⟩ | ⟨_, _, _, h1, _, _, h2, _⟩
    · cases h1
    · injection h1 with _ _ h1; rw [h1]; exact h2
  have wd : w.cell? ⟨0, 2, none⟩ = some (.string (bs [115, 101, 116])) := hE.words 2 (by decide)
  have lwd := World.block_lt_of_cell? _ _ wd
  have HE := Lib.hid hE
  have HAL := Lib.hid (fun W hW => (by have h := argText_any left hl W hW; rw [hTL] at h; exact h : Calls Tryd.prog 28 #[arV left] W fun e w' => e = .returned (.string (bs TL)) ∧ Keeps [] W w'))
  have HAR := Lib.hid (fun W hW => (by have h := argText_any right hr W hW; rw [hTR] at h; exact h : Calls Tryd.prog 28 #[arV right] W fun e w' => e = .returned (.string (bs TR)) ∧ Keeps [] W w'))
  have HH := Lib.hid h
  unfold arV at HAL HAR
  clear hE hl hr h hTL hTR hi hj
  unfold jbCells
  go_enter Tryd.func16, Tryd.ntmps16
  go_upto_region 13 with (fail)
  have hb := Blk.new w 71 #[.int .i64 at_, .int .i64 2, .slice A2 outs.length c2, .slice (some ⟨g3, 0, none⟩) 1 c3, .slice (some ⟨g4, 0, none⟩) 1 c4, .string (bs op), .string (bs left.col), .int .i64 left.val.kind, .int .i64 left.val.num, .string (bs left.val.word), .string (bs right.col), .int .i64 right.val.kind, .int .i64 right.val.num, .string (bs right.val.word), .int .i64 retry]
  have hk0 := (Keeps.refl [] w).alloc (.cells #[.int .i64 at_, .int .i64 2, .slice A2 outs.length c2, .slice (some ⟨g3, 0, none⟩) 1 c3, .slice (some ⟨g4, 0, none⟩) 1 c4, .string (bs op), .string (bs left.col), .int .i64 left.val.kind, .int .i64 left.val.num, .string (bs left.val.word), .string (bs right.col), .int .i64 right.val.kind, .int .i64 right.val.num, .string (bs right.val.word), .int .i64 retry] 71)
  obtain ⟨y0, hy0⟩ : ∃ x, w.alloc (.cells #[.int .i64 at_, .int .i64 2, .slice A2 outs.length c2, .slice (some ⟨g3, 0, none⟩) 1 c3, .slice (some ⟨g4, 0, none⟩) 1 c4, .string (bs op), .string (bs left.col), .int .i64 left.val.kind, .int .i64 left.val.num, .string (bs left.val.word), .string (bs right.col), .int .i64 right.val.kind, .int .i64 right.val.num, .string (bs right.val.word), .int .i64 retry] 71) = x := ⟨_, rfl⟩
  rw [hy0] at hb hk0 ⊢
  obtain ⟨jb, hjb⟩ : ∃ x, w.heap.size = x := ⟨_, rfl⟩
  rw [hjb] at hb ⊢
  have HK0 := Lib.hid hk0
  have y4 : y0.cell? ⟨jb, 4, none⟩ = some (.slice (some ⟨g4, 0, none⟩) 1 c4) := hb.cell 4
  have y5 : y0.cell? ⟨jb, 5, none⟩ = some (.string (bs op)) := hb.cell 5
  have y6 : y0.cell? ⟨jb, 6, none⟩ = some (.string (bs left.col)) := hb.cell 6
  have y7 : y0.cell? ⟨jb, 7, none⟩ = some (.int .i64 left.val.kind) := hb.cell 7
  have y8 : y0.cell? ⟨jb, 8, none⟩ = some (.int .i64 left.val.num) := hb.cell 8
  have y9 : y0.cell? ⟨jb, 9, none⟩ = some (.string (bs left.val.word)) := hb.cell 9
  have y10 : y0.cell? ⟨jb, 10, none⟩ = some (.string (bs right.col)) := hb.cell 10
  have y11 : y0.cell? ⟨jb, 11, none⟩ = some (.int .i64 right.val.kind) := hb.cell 11
  have y12 : y0.cell? ⟨jb, 12, none⟩ = some (.int .i64 right.val.num) := hb.cell 12
  have y13 : y0.cell? ⟨jb, 13, none⟩ = some (.string (bs right.val.word)) := hb.cell 13
  have ly := hb.lt
  have p0 := hk0.cell_of i0 (by simp)
  have q0 := hk0.cell_of j0 (by simp)
  have lg3 : g3 < y0.heap.size := World.block_lt_of_cell? _ _ p0
  have lg4 : g4 < y0.heap.size := World.block_lt_of_cell? _ _ q0
  clear hb hk0 hy0 hjb wd lwd i0 j0 HH
  have HC0 : Hid (∀ W, Keeps [] y0 W → Calls Tryd.prog 28 #[.agg #[.string (bs left.col), .int .i64 left.val.kind, .int .i64 left.val.num, .string (bs left.val.word)]] W fun e W' => e = .returned (.string (bs TL)) ∧ Keeps [] W W') := Lib.hid (fun W q => HAL.out W (HE.out.quiet (HK0.out.trans q)))
  have HC1 : Hid (∀ W, Keeps [] y0 W → Calls Tryd.prog 28 #[.agg #[.string (bs right.col), .int .i64 right.val.kind, .int .i64 right.val.num, .string (bs right.val.word)]] W fun e W' => e = .returned (.string (bs TR)) ∧ Keeps [] W W') := Lib.hid (fun W q => HAR.out W (HE.out.quiet (HK0.out.trans q)))
  refine wp_region_keeps (by kernel_rfl) (by kernel_rfl) ?_
  repeat (go_big_quiet_step (first | with_reducible exact KW.of HC0.out _ | with_reducible exact KW.of HC1.out _))
  refine wpQuiet_nil ?_
  intro wx kx
  go_wp2
  go_ret
  refine ⟨congrArg (fun l => Ending.returned (.string (bs l))) (?_ : _ = _), HK0.out.trans kx⟩
  simp [textJ, wordW, wordsL, HTL.out, HTR.out]
set_option maxRecDepth 100000 in
set_option maxHeartbeats 4000000 in
theorem text_3 (at_ : Int) (outs : List Bs) (a0 : Bs) (cols : List Bs) (op : Bs) (left right : Ar) (retry : Int) (base : Nat) (v2 v3 v4 : Value) (w : World) (hE : FEnv w) (hlen : a0.length ≤ 1000000) (h : JRows w base ⟨at_, 3, outs, [a0], cols, op, left, right, retry⟩ v2 v3 v4) (hne : cols ≠ []) (hcl : cols.length ≤ 1000000) (hjl : (joinCm cols).length ≤ 1000000000) :
    Calls Tryd.prog 16 #[.agg (jbCells ⟨at_, 3, outs, [a0], cols, op, left, right, retry⟩ v2 v3 v4)] w fun e w' => e = .returned (.string (bs (textJ ⟨at_, 3, outs, [a0], cols, op, left, right, retry⟩))) ∧ Keeps [] w w' := by
  obtain ⟨A2, c2, rfl, -⟩ := own_form h.o2
  obtain ⟨A3, c3, rfl, hi⟩ := own_form h.o3
  obtain ⟨g3, rfl, lg3, hi⟩ := hi (by simp)
  have i0 : w.cell? ⟨g3, 0, none⟩ = some (.string (bs a0)) := hi 0 _ rfl
  have hi3 : (1 : Nat) ≤ c3 := by
    rcases h.o3.2 with ⟨h1, _⟩ | ⟨_, _, _, h1, _, _, h2, _⟩
    · cases h1
    · injection h1 with _ _ h1; rw [h1]; exact h2
  obtain ⟨A4, c4, rfl, -⟩ := own_form h.o4
  have wd : w.cell? ⟨0, 3, none⟩ = some (.string (bs [112, 114, 111, 106, 101, 99, 116])) := hE.words 3 (by decide)
  have lwd := World.block_lt_of_cell? _ _ wd
  obtain ⟨JT, hJT⟩ : ∃ t, joinCm cols = t := ⟨_, rfl⟩
  have len_j : JT.length ≤ 1000000000 := by rw [← hJT]; exact hjl
  have HJT := Lib.hid hJT
  have HJ := Lib.hid (joinS_any cols hne hcl hjl A4 c4 (w.alloc (.cells #[.int .i64 at_, .int .i64 3, .slice A2 outs.length c2, .slice (some ⟨g3, 0, none⟩) 1 c3, .slice A4 cols.length c4, .string (bs op), .string (bs left.col), .int .i64 left.val.kind, .int .i64 left.val.num, .string (bs left.val.word), .string (bs right.col), .int .i64 right.val.kind, .int .i64 right.val.num, .string (bs right.val.word), .int .i64 retry] 71)) base (h.o4.alloc _))
  rw [hJT] at HJ
  have HE := Lib.hid hE
  clear hE h hi hne hcl hjl hJT
  unfold jbCells
  go_enter Tryd.func16, Tryd.ntmps16
  go_wp2_with fail
  refine HJ.out.mono ?_
  rintro e w2 ⟨rfl, hk⟩
  go_wp2
  go_ret
  refine ⟨congrArg (fun l => Ending.returned (.string (bs l))) (?_ : _ = _), ((Keeps.refl _ _).alloc _).trans hk⟩
  simp [textJ, wordW, wordsL, HJT.out]
set_option maxRecDepth 100000 in
set_option maxHeartbeats 4000000 in
theorem text_4 (at_ : Int) (outs : List Bs) (a0 : Bs) (cols : List Bs) (op : Bs) (left right : Ar) (retry : Int) (base : Nat) (v2 v3 v4 : Value) (w : World) (hE : FEnv w) (hlen : a0.length ≤ 1000000) (h : JRows w base ⟨at_, 4, outs, [a0], cols, op, left, right, retry⟩ v2 v3 v4) (hne : cols ≠ []) (hcl : cols.length ≤ 1000000) (hjl : (joinCm cols).length ≤ 1000000000) :
    Calls Tryd.prog 16 #[.agg (jbCells ⟨at_, 4, outs, [a0], cols, op, left, right, retry⟩ v2 v3 v4)] w fun e w' => e = .returned (.string (bs (textJ ⟨at_, 4, outs, [a0], cols, op, left, right, retry⟩))) ∧ Keeps [] w w' := by
  obtain ⟨A2, c2, rfl, -⟩ := own_form h.o2
  obtain ⟨A3, c3, rfl, hi⟩ := own_form h.o3
  obtain ⟨g3, rfl, lg3, hi⟩ := hi (by simp)
  have i0 : w.cell? ⟨g3, 0, none⟩ = some (.string (bs a0)) := hi 0 _ rfl
  have hi3 : (1 : Nat) ≤ c3 := by
    rcases h.o3.2 with ⟨h1, _⟩ | ⟨_, _, _, h1, _, _, h2, _⟩
    · cases h1
    · injection h1 with _ _ h1; rw [h1]; exact h2
  obtain ⟨A4, c4, rfl, -⟩ := own_form h.o4
  have wd : w.cell? ⟨0, 4, none⟩ = some (.string (bs [115, 111, 114, 116])) := hE.words 4 (by decide)
  have lwd := World.block_lt_of_cell? _ _ wd
  obtain ⟨JT, hJT⟩ : ∃ t, joinCm cols = t := ⟨_, rfl⟩
  have len_j : JT.length ≤ 1000000000 := by rw [← hJT]; exact hjl
  have HJT := Lib.hid hJT
  have HJ := Lib.hid (joinS_any cols hne hcl hjl A4 c4 (w.alloc (.cells #[.int .i64 at_, .int .i64 4, .slice A2 outs.length c2, .slice (some ⟨g3, 0, none⟩) 1 c3, .slice A4 cols.length c4, .string (bs op), .string (bs left.col), .int .i64 left.val.kind, .int .i64 left.val.num, .string (bs left.val.word), .string (bs right.col), .int .i64 right.val.kind, .int .i64 right.val.num, .string (bs right.val.word), .int .i64 retry] 71)) base (h.o4.alloc _))
  rw [hJT] at HJ
  have HE := Lib.hid hE
  clear hE h hi hne hcl hjl hJT
  unfold jbCells
  go_enter Tryd.func16, Tryd.ntmps16
  go_wp2_with fail
  refine HJ.out.mono ?_
  rintro e w2 ⟨rfl, hk⟩
  go_wp2
  go_ret
  refine ⟨congrArg (fun l => Ending.returned (.string (bs l))) (?_ : _ = _), ((Keeps.refl _ _).alloc _).trans hk⟩
  simp [textJ, wordW, wordsL, HJT.out]
end Go.Proofs.YtdmboaoeholkpaaDoor
namespace Go.Proofs.YtdmboaoeholkpaaDoor
theorem runN_le' (p : UInt8 → Bool) : ∀ (s : Bs), runN p s ≤ s.length
  | [] => Nat.le_refl _
  | c :: s => by
    unfold runN
    split
    · simpa using runN_le' p s
    · exact Nat.zero_le _
theorem runN_take (p : UInt8 → Bool) : ∀ (s : Bs), ∀ c ∈ s.take (runN p s), p c = true
  | [], c, h => by simp [runN] at h
  | d :: s, c, h => by
    unfold runN at h
    by_cases hd : p d
    · rw [if_pos hd, List.take_succ_cons] at h
      rcases List.mem_cons.1 h with rfl | h
      · exact hd
      · exact runN_take p s c h
    · rw [if_neg hd] at h
      simp at h
theorem hasPrefix_le {s m : Bs} (h : Lib.hasPrefix s m = true) : m.length ≤ s.length := by
  unfold Lib.hasPrefix at h
  exact (List.isPrefixOf_iff_prefix.1 h).length_le
theorem markN_le (s : Bs) : ∀ ms : List Bs, markN s ms ≤ s.length
  | [] => Nat.zero_le _
  | m :: ms => by
    unfold markN
    split
    · rename_i h; exact hasPrefix_le h
    · exact markN_le s ms
theorem nextL_le (c : UInt8) (t : Bs) : (nextL (c :: t)).2 ≤ (c :: t).length := by
  unfold nextL
  split
  · exact runN_le' _ _
  split
  · exact runN_le' _ _
  split
  · show (if Lib.indexByte t 39 < 0 then 0 else (Lib.indexByte t 39).toNat + 2) ≤ (c :: t).length
    split
    · exact Nat.zero_le _
    · rename_i h
      have h1 := (Lib.indexByte_some (l := t) (c := 39) (o := (Lib.indexByte t 39).toNat) (by omega)).1
      have := (List.getElem?_eq_some_iff.1 h1).1
      simp only [List.length_cons]
      omega
  · exact markN_le _ _
theorem next_w (c : UInt8) (t : Bs) (i : Int) (hs : (c :: t).length ≤ 1000000) (h0 : (nextL (c :: t)).2 ≠ 0) : TkW ⟨(nextL (c :: t)).1, (c :: t).take (nextL (c :: t)).2, i⟩ := by
  have hle := nextL_le c t
  refine ⟨?_, ?_, ?_⟩
  · show (List.take _ _).length ≤ _
    rw [List.length_take]
    omega
  · intro h d hd
    revert h hd
    dsimp only
    unfold nextL
    split
    · intro h; cases h
    split
    · intro _ hd; exact runN_take _ _ d hd
    split
    · intro h; cases h
    · intro h; cases h
  · intro h
    show 2 ≤ (List.take _ _).length
    rw [List.length_take]
    revert h h0 hle
    dsimp only
    unfold nextL
    split
    · intro _ _ h; cases h
    split
    · intro _ _ h; cases h
    split
    · dsimp only
      split
      · intro h; exact absurd rfl h
      · intro _ _ _; omega
    · intro _ _ h; cases h
theorem lexGo_ok : ∀ (f : Nat) (s : Bs) (i : Nat) (acc l : List Tk), s.length ≤ 1000000 → acc.length ≤ 400 → (∀ t ∈ acc, TkW t) → lexGo f s i acc = .ok l → EndT l ∧ (∀ t ∈ l, TkW t) ∧ l.length ≤ 401 := by
  have hend : ∀ (acc : List Tk) (i : Nat) (l : List Tk), acc.length ≤ 400 → (∀ t ∈ acc, TkW t) → (Except.ok (acc ++ [⟨5, [], (i : Int)⟩]) : Except (Int × Int) (List Tk)) = .ok l → EndT l ∧ (∀ t ∈ l, TkW t) ∧ l.length ≤ 401 := by
    intro acc i l hl ha h
    injection h with h
    subst h
    refine ⟨⟨acc, _, rfl, rfl⟩, ?_, by simp; omega⟩
    intro t ht
    rcases List.mem_append.1 ht with ht | ht
    · exact ha t ht
    · rw [List.mem_singleton.1 ht]
      exact ⟨by simp, (fun h => by cases h), (fun h => by cases h)⟩
  intro f
  induction f with
  | zero => intro s i acc l _ hl ha h; exact hend acc i l hl ha h
  | succ f ih =>
    intro s i acc l hs hl ha h
    cases s with
    | nil => exact hend acc i l hl ha h
    | cons c t =>
      unfold lexGo at h
      split at h
      · exact ih t (i + 1) acc l (by simp at hs; omega) hl ha h
      split at h
      · cases h
      split at h
      · cases h
      rename_i h1 h2 h3
      refine ih _ _ _ l ?_ ?_ ?_ h
      · rw [List.length_drop]; omega
      · rw [List.length_append]; simp; omega
      · intro u hu
        rcases List.mem_append.1 hu with hu | hu
        · exact ha u hu
        · rw [List.mem_singleton.1 hu]
          exact next_w c t i hs h2
theorem lexL_ok {s : Bs} {l : List Tk} (hs : s.length ≤ 1000000) (h : lexL s = .ok l) : EndT l ∧ (∀ t ∈ l, TkW t) ∧ l.length ≤ 401 :=
  lexGo_ok _ _ _ _ _ hs (by simp) (fun t ht => by cases ht) h
end Go.Proofs.YtdmboaoeholkpaaDoor
namespace Go.Proofs.YtdmboaoeholkpaaDoor
/-- A name. -/
structure NameW (s : Bs) : Prop where
  ne : s ≠ []
  len : s.length ≤ 10
  head : letC (s.headD 0) = true
  all : ∀ c ∈ s, ldC c = true
def NamesW (l : List Bs) : Prop := l ≠ [] ∧ l.length ≤ 1000 ∧ ∀ s ∈ l, NameW s
/-- An argument: a column, or a value. -/
def ArgW (a : Ar) : Prop := (NameW a.col ∧ a.val = zV) ∨ (a.col = [] ∧ rvB a.val = true)
def ArgZ (a : Ar) : Prop := a = ⟨[], zV⟩ ∨ ArgW a
def BodyW (j : Jb) : Prop :=
  (j.code = 7 ∧ ∃ a b c d, NameW a ∧ NameW b ∧ NameW c ∧ NameW d ∧ j.ins = [a, b] ∧ j.cols = [c, d])
  ∨ (j.code = 5 ∧ ∃ a b, NameW a ∧ NameW b ∧ j.ins = [a, b] ∧ j.cols = [])
  ∨ (j.code = 6 ∧ ∃ a, NameW a ∧ j.ins = [a] ∧ j.cols = [])
  ∨ ((j.code = 1 ∨ j.code = 9) ∧ ∃ a s, NameW a ∧ NameW s ∧ j.ins = [a] ∧ j.cols = [] ∧ j.left = ⟨s, zV⟩ ∧ j.op ∈ cmpL ∧ ArgW j.right)
  ∨ (j.code = 2 ∧ ∃ a c, NameW a ∧ NameW c ∧ j.ins = [a] ∧ j.cols = [c] ∧ ArgW j.left ∧ j.op ∈ [[43], [45], [42]] ∧ ArgW j.right)
  ∨ ((j.code = 3 ∨ j.code = 4) ∧ ∃ a, NameW a ∧ j.ins = [a] ∧ NamesW j.cols)
  ∨ (j.code = 8 ∧ ∃ a c d, NameW a ∧ NameW c ∧ NameW d ∧ j.ins = [a] ∧ j.cols = [c, d] ∧ j.op ∈ [[115, 117, 109], [109, 97, 120]])
structure JobW (j : Jb) : Prop where
  outs : NamesW j.outs
  lo : 0 ≤ j.retry
  hi : j.retry ≤ 5
  left : ArgZ j.left
  right : ArgZ j.right
  op : j.op.length ≤ 10
  body : BodyW j
structure InW (x : In) : Prop where
  name : NameW x.name
  ne : x.cols ≠ []
  len : x.cols.length ≤ 1000
  cols : ∀ c ∈ x.cols, NameW c.name ∧ (c.kind = 1 ∨ c.kind = 2)
structure OutW (x : Pb) : Prop where
  name : NameW x.name
  src : NameW x.src
structure FlW (f : Fl) : Prop where
  nins : f.ins.length ≤ 16
  njobs : f.jobs.length ≤ 16
  nouts : f.outs.length ≤ 16
  ins : ∀ x ∈ f.ins, InW x
  jobs : ∀ x ∈ f.jobs, JobW x
  outs : ∀ x ∈ f.outs, OutW x
/-! ### How long texts are -/
theorem joinCm_len : ∀ {l : List Bs} {n : Nat}, (∀ s ∈ l, s.length ≤ n) → (joinCm l).length ≤ l.length * (n + 2)
  | [], n, _ => by simp [joinCm, Lib.join]
  | [a], n, h => by
    have := h a (by simp)
    simp [joinCm, Lib.join]
    omega
  | a :: b :: l, n, h => by
    have h1 := h a (by simp)
    have ih := joinCm_len (l := b :: l) (n := n) (fun s hs => h s (List.mem_cons_of_mem _ hs))
    have e : joinCm (a :: b :: l) = a ++ [44, 32] ++ joinCm (b :: l) := by simp [joinCm, Lib.join]
    rw [e]
    simp only [List.length_append, List.length_cons, List.length_nil] at ih ⊢
    have : (l.length + 1 + 1) * (n + 2) = (l.length + 1) * (n + 2) + (n + 2) := by rw [Nat.succ_mul (l.length + 1)]
    omega
theorem rvB_num {v : Vl} (h : rvB v = true) : -1000000000 ≤ v.num ∧ v.num ≤ 1000000000 ∧ v.word.length ≤ 16 := by
  unfold rvB at h
  split at h
  · simp at h
    refine ⟨by omega, by omega, ?_⟩
    rw [h.1.1]; simp
  · split at h
    · simp at h
      exact ⟨by omega, by omega, by omega⟩
    · cases h
theorem itoa_len {n : Int} (h1 : -1000000000 ≤ n) (h2 : n ≤ 1000000000) : (Lib.itoa n).length ≤ 21 := Lib.itoa_length_le n (by omega) (by omega)
theorem valueL_len {v : Vl} (h : rvB v = true) : (valueL v).length ≤ 21 := by
  obtain ⟨h1, h2, h3⟩ := rvB_num h
  unfold valueL
  split
  · exact itoa_len h1 h2
  · simp; omega
theorem argT_len {a : Ar} (h : ArgZ a) : (argT a).length ≤ 21 := by
  unfold argT
  rcases h with h | ⟨h, _⟩ | ⟨hc, h⟩
  · rw [h]; decide
  · split
    · rename_i e; exact absurd e h.ne
    · have := h.len; omega
  · split
    · exact valueL_len h
    · rename_i e; exact absurd hc e
theorem colT_len {c : Cl} (h : NameW c.name ∧ (c.kind = 1 ∨ c.kind = 2)) : (colT c).length ≤ 15 := by
  unfold colT
  have := h.1.len
  rcases h.2 with e | e
  all_goals
    rw [e]
    simp [kindW]
    omega
theorem inT_len {x : In} (h : InW x) : (inT x).length ≤ 20000 := by
  unfold inT
  have h1 := joinCm_len (l := x.cols.map colT) (n := 15) (fun s hs => by
    obtain ⟨c, hc, rfl⟩ := List.mem_map.1 hs
    exact colT_len (h.cols c hc))
  have h2 := h.name.len
  have h3 := h.len
  simp only [List.length_append, List.length_cons, List.length_nil, List.length_map] at h1 ⊢
  omega
theorem names_len {l : List Bs} (h : NamesW l) : (joinCm l).length ≤ 12000 := by
  have h1 := joinCm_len (l := l) (n := 10) (fun s hs => (h.2.2 s hs).len)
  have := h.2.1
  omega
theorem outT_len {x : Pb} (h : OutW x) : (outT x).length ≤ 40 := by
  unfold outT
  have h1 := h.name.len
  have h2 := h.src.len
  simp only [List.length_append, List.length_cons, List.length_nil]
  omega
end Go.Proofs.YtdmboaoeholkpaaDoor
