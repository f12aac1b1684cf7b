/- Columns and values compared as wholes. sameCols and sameTexts, of two that are the same. strings.Builder, at this program: WriteString, String. -/
import Derived.Test.YtnjjajanfedjiaaGreatDoorFrdM6
import Derived.Test.YtnjjajanfedjiaaGreatDoorFrdM25
import Derived.Test.YtnjjajanfedjiaaGreatDoorProg
import Derived.Test.YtnjjajanfedjiaaGreatDoorFrdM1
import Derived.Test.YtnjjajanfedjiaaGreatDoorFrdM2
import Derived.Shelf.Strings.Builder1
import Derived.Lib.OthersKept
set_option linter.unusedSimpArgs false
set_option linter.unusedVariables false
namespace Go.Proofs.YtnjjajanfedjiaaGreatDoor
open Go.RowKit
attribute [local go_sem] bs_size bs_extract bs_append bs_toList
theorem cNeq (a b : Cl) (W : World) : (binOp .neq 61 (.agg #[.string (bs a.name), .int .i64 a.kind]) (.agg #[.string (bs b.name), .int .i64 b.kind])).run Tryz.prog W = .ok (.bool (!decide (a = b))) W := by
 have hd : decide (a = b) = (decide (a.name = b.name) && decide (a.kind = b.kind)) := by
  obtain ⟨n, k⟩ := a
  obtain ⟨n2, k2⟩ := b
  rw [Bool.eq_iff_iff]
  simp
 rw [hd]
 simp [go_sem]
 by_cases h1 : a.name = b.name <;> by_cases h2 : a.kind = b.kind <;> simp [h1, h2, go_sem]
end Go.Proofs.YtnjjajanfedjiaaGreatDoor
namespace Go.Proofs.YtnjjajanfedjiaaGreatDoor
open Go.RowKit Go.BigFrame
attribute [local go_sem] bs_size bs_extract bs_append bs_toList KW.cell
theorem csAt : ∀ (l : List Cl) (i : Nat) (h : i < l.length), (csCells l)[i * 2]? = some (.string (bs l[i].name)) ∧ (csCells l)[i * 2 + 1]? = some (.int .i64 l[i].kind)
 | [], _, h => absurd h (by simp)
 | c :: l, 0, _ => by simp [csCells, cCells]
 | c :: l, i + 1, h => by
  have ih := csAt l i (by simpa using h)
  have e : csCells (c :: l) = [.string (bs c.name), .int .i64 c.kind] ++ csCells l := by simp [csCells, cCells]
  rw [e, show (i + 1) * 2 = i * 2 + 2 by omega, show i * 2 + 2 + 1 = (i * 2 + 1) + 2 by omega]
  simpa using ih
theorem textAt (l : List Bs) (i : Nat) (h : i < l.length) : (strs l)[i]? = some (.string (bs l[i])) := by simp [strs, h]
theorem own_len {w : World} {base e size n : Nat} {v : Value} {xs : List Value} (h : w.ownsRow base e size v n xs) : n ≤ 9223372036854775807 := by
 rcases h.2 with ⟨_, h0⟩ | ⟨g, cap, cur, _, hb, hh, h1, h2, _⟩
 ·omega
 ·have h3 : cap ≤ 9223372036854775807 := h2
  omega
set_option maxRecDepth 100000 in
set_option maxHeartbeats 4000000 in
theorem sameCols_any (l : List Cl) (b1 b2 : Nat) (v1 v2 : Value) (w : World) (h1 : w.ownsRow b1 61 2 v1 l.length (csCells l)) (h2 : w.ownsRow b2 61 2 v2 l.length (csCells l)) :
  Calls Tryz.prog 39 #[v1, v2] w fun e w' => e = .returned (.bool true) ∧ Keeps [] w w' := by
 have hmx := own_len h1
 obtain ⟨A1, c1, rfl, g1⟩ := own_form h1
 obtain ⟨A2, c2, rfl, g2⟩ := own_form h2
 have HG1 := Lib.hid g1
 have HG2 := Lib.hid g2
 clear h1 h2 g1 g2
 go_enter Tryz.func39, Tryz.ntmps39
 go_wp2
 go_loopw [5] (fun i wr => ∃ m : Nat, m ≤ l.length ∧ i = .int .i64 m ∧ Hid (Keeps [] w wr)) (fun i _ => l.length - (intOf i).toNat)
 case atStart => exact ⟨0, Nat.zero_le _, rfl, Lib.hid (Keeps.refl _ _)⟩
 case round =>
  obtain ⟨m, hm, rfl, HK⟩ := hrel
  by_cases hlt : m < l.length
  ·have hi : (m : Int) < (l.length : Int) := by omega
   obtain ⟨b1', rfl, l1, q1⟩ := HG1.out (by omega)
   obtain ⟨b2', rfl, l2, q2⟩ := HG2.out (by omega)
   have e0 := HK.out.cell_of (q1 _ _ (csAt l m hlt).1) (by simp)
   have e1 := HK.out.cell_of (q1 _ _ (csAt l m hlt).2) (by simp)
   have d0 := HK.out.cell_of (q2 _ _ (csAt l m hlt).1) (by simp)
   have d1 := HK.out.cell_of (q2 _ _ (csAt l m hlt).2) (by simp)
   have k1 := World.block_lt_of_cell? _ _ e0
   have k2 := World.block_lt_of_cell? _ _ d0
   obtain ⟨x, hx⟩ : ∃ x, l[m] = x := ⟨_, rfl⟩
   rw [hx] at e0 e1 d0 d1
   have hcm : ∀ W, (binOp .neq 61 (.agg #[.string (bs x.name), .int .i64 x.kind]) (.agg #[.string (bs x.name), .int .i64 x.kind])).run Tryz.prog W = .ok (.bool false) W := fun W => by have := cNeq x x W; simpa using this
   clear q1 q2 hx l1 l2
   go_upto_region 6 with (fail)
   refine wp_region_keeps (by kernel_rfl) (by kernel_rfl) ?_
   repeat (go_big_quiet_step (fail))
   refine wpQuiet_nil ?_
   intro wx kx
   have HX := Lib.hid (HK.out.trans kx)
   go_wp2
   go_roundw
   case rel => exact ⟨m + 1, by omega, by go_num, HX⟩
   case measure => simp [intOf]; omega
  ·have hi : ¬ (m : Int) < (l.length : Int) := by omega
   go_wp2
   go_ret
   exact ⟨rfl, HK.out⟩
set_option maxRecDepth 100000 in
set_option maxHeartbeats 4000000 in
theorem sameTexts_any (l : List Bs) (b1 b2 : Nat) (v1 v2 : Value) (w : World) (h1 : w.ownsRow b1 9 1 v1 l.length (strs l)) (h2 : w.ownsRow b2 9 1 v2 l.length (strs l)) :
  Calls Tryz.prog 40 #[v1, v2] w fun e w' => e = .returned (.bool true) ∧ Keeps [] w w' := by
 have hmx := own_len h1
 obtain ⟨A1, c1, rfl, g1⟩ := own_form h1
 obtain ⟨A2, c2, rfl, g2⟩ := own_form h2
 have HG1 := Lib.hid g1
 have HG2 := Lib.hid g2
 clear h1 h2 g1 g2
 go_enter Tryz.func40, Tryz.ntmps40
 go_wp2
 go_loopw [5] (fun i wr => ∃ m : Nat, m ≤ l.length ∧ i = .int .i64 m ∧ Hid (Keeps [] w wr)) (fun i _ => l.length - (intOf i).toNat)
 case atStart => exact ⟨0, Nat.zero_le _, rfl, Lib.hid (Keeps.refl _ _)⟩
 case round =>
  obtain ⟨m, hm, rfl, HK⟩ := hrel
  by_cases hlt : m < l.length
  ·have hi : (m : Int) < (l.length : Int) := by omega
   obtain ⟨b1', rfl, l1, q1⟩ := HG1.out (by omega)
   obtain ⟨b2', rfl, l2, q2⟩ := HG2.out (by omega)
   have e0 := HK.out.cell_of (q1 _ _ (textAt l m hlt)) (by simp)
   have d0 := HK.out.cell_of (q2 _ _ (textAt l m hlt)) (by simp)
   have k1 := World.block_lt_of_cell? _ _ e0
   have k2 := World.block_lt_of_cell? _ _ d0
   obtain ⟨x, hx⟩ : ∃ x, l[m] = x := ⟨_, rfl⟩
   rw [hx] at e0 d0
   have hxx : (x == x) = true := beq_self_eq_true x
   clear q1 q2 hx l1 l2
   go_upto_region 6 with (fail)
   refine wp_region_keeps (by kernel_rfl) (by kernel_rfl) ?_
   repeat (go_big_quiet_step (fail))
   refine wpQuiet_nil ?_
   intro wx kx
   have HX := Lib.hid (HK.out.trans kx)
   go_wp2
   go_roundw
   case rel => exact ⟨m + 1, by omega, by go_num, HX⟩
   case measure => simp [intOf]; omega
  ·have hi : ¬ (m : Int) < (l.length : Int) := by omega
   go_wp2
   go_ret
   exact ⟨rfl, HK.out⟩
end Go.Proofs.YtnjjajanfedjiaaGreatDoor
namespace Go.Proofs.YtnjjajanfedjiaaGreatDoor
open Go.RowKit
attribute [local go_sem] bs_size bs_extract bs_append bs_toList
def Bld (w : World) (B b : Nat) (l : Bs) : Prop := Lib.IsBuilder 109 5 B b (Lib.byteCells l) w
theorem bytes_len (l : Bs) : (Lib.byteCells l).length = l.length := by simp [Lib.byteCells]
theorem bld_info : (Tryz.prog.info? 5).map (fun i => (i.zero, i.size, i.bytes)) = some (some (.int .u8 0), 1, 1) := by kernel_rfl
theorem bld_size : (Tryz.prog.info? 109).map (·.size) = some 2 := by kernel_rfl
theorem bld_lies : liesAt Tryz.prog Tryz.prog.depth 109 (2 / Tryz.prog.cellsOf 109) 0 109 1 = true := by kernel_rfl
set_option maxHeartbeats 1000000 in
set_option maxRecDepth 100000 in
theorem copy_fresh (b : Nat) (w : World) (h0 : w.cell? ⟨b, 0, none⟩ = some (.pointer none)) (hsh : w.shape? b = some (109, 2)) (hfz : w.frozen? ⟨b, 0, none⟩ = false) :
  Calls Tryz.prog 83 #[.pointer (some ⟨b, 0, none⟩)] w fun e w' => e = .returned (.tuple #[]) ∧ w' = w.setCell ⟨b, 0, none⟩ (.pointer (some ⟨b, 0, none⟩)) := by
 obtain ⟨j, hj, hjs⟩ := Option.map_eq_some_iff.1 bld_size
 go_enter Tryz.func83, Tryz.ntmps83
 go_wp2
 rw [Lib.run_to_unsafe w ⟨b, 0, none⟩ Tryz.underlying106 Tryz.underlying171 hj (by rw [hjs]; decide) hsh (Nat.zero_lt_succ 1)]
 simp only [Result.andThen]
 rw [Oper.upon_value]
 go_wp2
 rw [run_callFunc_extern Tryz.func121 (by kernel_rfl) (by kernel_rfl) (by kernel_rfl) (e := Extern.AbiNoEscape.same) (by kernel_rfl)]
 rw [Lib.run_noEscape]
 simp only [Result.andThen]
 rw [Oper.upon_value]
 go_wp2
 rw [Lib.run_from_unsafe w ⟨b, 0, none⟩ Tryz.underlying171 Tryz.underlying106 hj hsh bld_lies]
 simp only [Result.andThen]
 rw [Oper.upon_value]
 go_wp2
 go_end0
 exact ⟨rfl, rfl⟩
set_option maxRecDepth 100000 in
theorem copy_used (b : Nat) (w : World) (h0 : w.cell? ⟨b, 0, none⟩ = some (.pointer (some ⟨b, 0, none⟩))) :
  Calls Tryz.prog 83 #[.pointer (some ⟨b, 0, none⟩)] w fun e w' => e = .returned (.tuple #[]) ∧ w' = w := by
 obtain ⟨j, hj, hjs⟩ := Option.map_eq_some_iff.1 bld_size
 go_enter Tryz.func83, Tryz.ntmps83
 go_wp2
 rw [Lib.run_neq_ptr_same w _ Tryz.underlying106 hj]
 go_wp2
 go_end0
 exact ⟨rfl, rfl⟩
theorem copy_any (B b : Nat) (bs : List Value) (w : World) (h : Lib.IsBuilder 109 5 B b bs w) :
  Calls Tryz.prog 83 #[.pointer (some ⟨b, 0, none⟩)] w fun e w' => e = .returned (.tuple #[]) ∧ (Lib.BuilderAt 109 5 B b (.pointer (some ⟨b, 0, none⟩)) bs w' ∧ Below B w w' ∧ Lib.OthersKept 5 (some b) w w') := by
 rcases h with h | h
 ·refine (copy_fresh b w h.cell0 h.shape h.frozen0).mono ?_
  rintro e w' ⟨rfl, rfl⟩
  exact ⟨rfl, h.used _, (Below.refl B w).setCell (p := ⟨b, 0, none⟩) h.1 _, Lib.OthersKept.setCell (b := b) (Lib.OthersKept.refl _ _ _) ⟨b, 0, none⟩ rfl _⟩
 ·refine (copy_used b w h.cell0).mono ?_
  rintro e w' ⟨rfl, rfl⟩
  exact ⟨rfl, h, Below.refl B _, Lib.OthersKept.refl _ _ _⟩
theorem bld_kind {w : World} {B : Nat} {e : TypeId} {v : Value} {n : Nat} {xs : List Value} (h : w.ownsRow B e 1 v n xs) : ∀ g, v.ownBlock = some g → ∃ c fz, w.heap[g]? = some (.cells c e fz) := fun g hg => by
 rcases h.2 with ⟨rfl, _⟩ | ⟨g', cap, cur, rfl, _, hh, _⟩
 ·cases hg
 ·have : g' = g := by simpa [Value.ownBlock] using hg
  subst this
  exact ⟨cur, _, hh⟩
theorem bld_after' {w1 w2 : World} {b : Nat} {t : TypeId} {cs : Array Value} {v : Value} (hbk : w1.heap[b]? = some (.cells cs t (0, 0))) (hgrow : w1.grownBy w2 v.ownBlock) (hne : v.ownBlock ≠ some b) :
  b < w1.heap.size ∧ w2.heap[b]? = some (.cells cs t (0, 0)) := by
 have hlt : b < w1.heap.size := (Array.getElem?_eq_some_iff.1 hbk).1
 exact ⟨hlt, by rw [hgrow.block b hlt (fun e => hne e.symm)]; exact hbk⟩
set_option maxHeartbeats 1000000 in
set_option maxRecDepth 100000 in
theorem writeString_any {w : World} {B b : Nat} {l : Bs} (h : Bld w B b l) (s : Bs) (hlen : l.length ≤ 1000000000) (hs : s.length ≤ 1000000000) (hBw : B ≤ w.heap.size) :
  Calls Tryz.prog 45 #[.pointer (some ⟨b, 0, none⟩), .string (bs s)] w fun e w' => e = .returned (.tuple #[.int .i64 s.length, .nilIface]) ∧ Bld w' B b (l ++ s) ∧ Below B w w' ∧ Lib.OthersKept 5 (some b) w w' := by
 obtain ⟨i0, hi, hz0, hz1, hz2⟩ := info_parts bld_info
 have hl := bytes_len l
 have HL := Lib.hid hl
 have HB := Lib.hid (copy_any B b (Lib.byteCells l) w h)
 clear hl h
 go_enter Tryz.func45, Tryz.ntmps45
 go_wp2_with fail
 refine HB.out.mono ?_
 rintro e w1 ⟨rfl, h1, hb1, ko1⟩
 obtain ⟨hB, v, hbk, hown, hne⟩ := h1
 have c1 : w1.cell? ⟨b, 1, none⟩ = some v := by rw [Lib.cell_of_heap hbk]; rfl
 have HBK := Lib.hid hbk
 have HO := Lib.hid hown
 have HB1 := Lib.hid hb1
 have KO1 := Lib.hid ko1
 have HS := Lib.hid (show B ≤ w1.heap.size by have := hb1.size; omega)
 have HM := Lib.hid (show (Lib.byteCells l).length + (bs s).size ≤ maxLen ∧ (Lib.byteCells l).length + (bs s).size ≤ 140737488355328 by rw [HL.out, bs_size]; simp only [maxLen]; omega)
 clear hbk hown hb1 ko1
 go_wp2_with (at_builtin; refine Lib.wpList_append_own_string _ rfl _ _ 107 9 rfl B 5 i0 Tryz.underlying107 Tryz.underlying9 hi hz0 hz1 hz2 _ _ _ rfl HO.out (bs s) rfl HM.out.1 HM.out.2 HS.out ?_)
 intro vv w2 hown' hgrow hnn
 obtain ⟨hlt, hb2⟩ := bld_after' HBK.out hgrow hne
 have d1 : w2.cell? ⟨b, 1, none⟩ = some v := by rw [Lib.cell_of_heap hb2]; rfl
 have f1 : w2.frozen? ⟨b, 1, none⟩ = false := Lib.frozen_of_heap hb2 1
 obtain ⟨ao, n', cap, rfl⟩ : ∃ ao n' cap, vv = .slice ao n' cap := by
  rcases hown'.2 with ⟨hv, _⟩ | ⟨g, cap, cur, hv, _⟩
  ·exact ⟨_, _, _, hv⟩
  ·exact ⟨_, _, _, hv⟩
 have e : Lib.byteCells (l ++ s) = Lib.byteCells l ++ Lib.strCells (bs s) := by simp [Lib.byteCells, Lib.strCells, bs]
 have HO2 := Lib.hid hown'
 have HE := Lib.hid e
 have HG := Lib.hid hgrow
 have HB2 := Lib.hid hb2
 clear hown' e hgrow hb2 hnn
 go_wp2
 go_ret2
 refine ⟨rfl, .inr ?_, ?_, ?_⟩
 ·exact Lib.BuilderAt.put (T := 109) (e := 5) hB HB2.out (bs' := Lib.byteCells (l ++ s)) (by rw [HE.out, List.length_append, Lib.strCells_length, bs_size]; exact HO2.out) (by decide)
 ·exact (HB1.out.grown HG.out (by have := HB1.out.size; omega) (fun k hk => (HO.out.lt k hk).1)).setCell (p := ⟨b, 1, none⟩) hB _
 ·exact (KO1.out.grown HG.out (bld_kind HO.out)).setCell ⟨b, 1, none⟩ rfl _
theorem Bld.alloc {w : World} {B b : Nat} {l : Bs} (h : Bld w B b l) (o : Obj) : Bld (w.alloc o) B b l := by
 have key : ∀ p, Lib.BuilderAt 109 5 B b p (Lib.byteCells l) w → Lib.BuilderAt 109 5 B b p (Lib.byteCells l) (w.alloc o) := fun p hp => by
  obtain ⟨h1, v, h2, h3, h4⟩ := hp
  exact ⟨h1, v, (Lib.alloc_old w o b (Array.getElem?_eq_some_iff.1 h2).1).trans h2, h3.alloc o, h4⟩
 rcases h with h | h
 ·exact .inl (key _ h)
 ·exact .inr (key _ h)
theorem Bld.keep {w w' : World} {B b : Nat} {l : Bs} (h : Bld w B b l) (hk : Keeps [] w w') : Bld w' B b l := by
 have key : ∀ p, Lib.BuilderAt 109 5 B b p (Lib.byteCells l) w → Lib.BuilderAt 109 5 B b p (Lib.byteCells l) w' := fun p hp => by
  obtain ⟨h1, v, h2, h3, h4⟩ := hp
  exact ⟨h1, v, (hk.block b (Array.getElem?_eq_some_iff.1 h2).1 (by simp)).trans h2, own_keep h3 hk (by simp), h4⟩
 rcases h with h | h
 ·exact .inl (key _ h)
 ·exact .inr (key _ h)
theorem Bld.lt {w : World} {B b : Nat} {l : Bs} (h : Bld w B b l) : b < w.heap.size := by
 rcases h with ⟨_, v, h2, _⟩ | ⟨_, v, h2, _⟩
 ·exact (Array.getElem?_eq_some_iff.1 h2).1
 ·exact (Array.getElem?_eq_some_iff.1 h2).1
theorem Bld.drew {w : World} {B b : Nat} {l : Bs} (h : Bld w B b l) : Bld w.drew B b l := h
theorem Keeps.under {w0 w w' : World} (hk : Keeps [] w0 w) (hb : Below w0.heap.size w w') : Keeps [] w0 w' :=
 ⟨hb.os.trans hk.os, hb.output.trans hk.output, Nat.le_trans hk.size hb.size, fun k h1 _ => (hb.block k h1).trans (hk.block k h1 (by simp))⟩
theorem bld_new (w : World) : Bld (w.alloc (.cells #[.pointer none, .slice none 0 0] 109)) w.heap.size w.heap.size [] := Lib.fresh_isBuilder _ _ w
end Go.Proofs.YtnjjajanfedjiaaGreatDoor
