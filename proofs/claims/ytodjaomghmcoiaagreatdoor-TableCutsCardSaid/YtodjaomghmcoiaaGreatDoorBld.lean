/- strings.Builder, at this program: WriteByte, WriteString, String. -/
import Derived.Test.YtodjaomghmcoiaaGreatDoorTab
import Derived.Shelf.Strings.Builder1
import Derived.Lib.OthersKept
namespace Go.Proofs.YtodjaomghmcoiaaGreatDoor
open Go.RowKit
attribute [local go_sem] bs_size bs_extract bs_append bs_toList
/-- A builder at b holds the bytes l; all of it lies from block B on. -/
def Bld (w : World) (B b : Nat) (l : Bs) : Prop := Lib.IsBuilder 82 5 B b (Lib.byteCells l) w
theorem bytes_len (l : Bs) : (Lib.byteCells l).length = l.length := by simp [Lib.byteCells]
theorem bld_info : (Tryz.prog.info? 5).map (fun i => (i.zero, i.size, i.bytes)) = some (some (.int .u8 0), 1, 1) := by kernel_rfl
theorem bld_size : (Tryz.prog.info? 82).map (·.size) = some 2 := by kernel_rfl
theorem bld_lies : liesAt Tryz.prog Tryz.prog.depth 82 (2 / Tryz.prog.cellsOf 82) 0 82 1 = true := by kernel_rfl
set_option maxHeartbeats 1000000 in
set_option maxRecDepth 100000 in
theorem copy_fresh (b : Nat) (w : World) (h0 : w.cell? ⟨b, 0, none⟩ = some (.pointer none)) (hsh : w.shape? b = some (82, 2)) (hfz : w.frozen? ⟨b, 0, none⟩ = false) :
    Calls Tryz.prog 79 #[.pointer (some ⟨b, 0, none⟩)] w fun e w' => e = .returned (.tuple #[]) ∧ w' = w.setCell ⟨b, 0, none⟩ (.pointer (some ⟨b, 0, none⟩)) := by
  obtain ⟨j, hj, hjs⟩ := Option.map_eq_some_iff.1 bld_size
  go_enter Tryz.func79, Tryz.ntmps79
  go_wp2
  rw [Lib.run_to_unsafe w ⟨b, 0, none⟩ Tryz.underlying79 Tryz.underlying125 hj (by rw [hjs]; decide) hsh (Nat.zero_lt_succ 1)]
  simp only [Result.andThen]
  rw [Oper.upon_value]
  go_wp2
  rw [run_callFunc_extern Tryz.func95 (by kernel_rfl) (by kernel_rfl) (by kernel_rfl) (e := Extern.AbiNoEscape.same) (by kernel_rfl)]
  rw [Lib.run_noEscape]
  simp only [Result.andThen]
  rw [Oper.upon_value]
  go_wp2
  rw [Lib.run_from_unsafe w ⟨b, 0, none⟩ Tryz.underlying125 Tryz.underlying79 hj hsh bld_lies]
  simp only [Result.andThen]
  rw [Oper.upon_value]
  go_wp2
  go_end0
  exact ⟨rfl, rfl⟩
set_option maxRecDepth 100000 in
theorem copy_used (b : Nat) (w : World) (h0 : w.cell? ⟨b, 0, none⟩ = some (.pointer (some ⟨b, 0, none⟩))) :
    Calls Tryz.prog 79 #[.pointer (some ⟨b, 0, none⟩)] w fun e w' => e = .returned (.tuple #[]) ∧ w' = w := by
  obtain ⟨j, hj, hjs⟩ := Option.map_eq_some_iff.1 bld_size
  go_enter Tryz.func79, Tryz.ntmps79
  go_wp2
  rw [Lib.run_neq_ptr_same w _ Tryz.underlying79 hj]
  go_wp2
  go_end0
  exact ⟨rfl, rfl⟩
theorem copy_any (B b : Nat) (bs : List Value) (w : World) (h : Lib.IsBuilder 82 5 B b bs w) :
    Calls Tryz.prog 79 #[.pointer (some ⟨b, 0, none⟩)] w fun e w' => e = .returned (.tuple #[]) ∧ (Lib.BuilderAt 82 5 B b (.pointer (some ⟨b, 0, none⟩)) bs w' ∧ Below B w w' ∧ Lib.OthersKept 5 (some b) w w') := by
  rcases h with h | h
  · refine (copy_fresh b w h.cell0 h.shape h.frozen0).mono ?_
    rintro e w' ⟨rfl, rfl⟩
    exact ⟨rfl, h.used _, (Below.refl B w).setCell (p := ⟨b, 0, none⟩) h.1 _, Lib.OthersKept.setCell (b := b) (Lib.OthersKept.refl _ _ _) ⟨b, 0, none⟩ rfl _⟩
  · refine (copy_used b w h.cell0).mono ?_
    rintro e w' ⟨rfl, rfl⟩
    exact ⟨rfl, h, Below.refl B _, Lib.OthersKept.refl _ _ _⟩
theorem bld_kind {w : World} {B : Nat} {e : TypeId} {v : Value} {n : Nat} {xs : List Value} (h : w.ownsRow B e 1 v n xs) : ∀ g, v.ownBlock = some g → ∃ c fz, w.heap[g]? = some (.cells c e fz) := fun g hg => by
  rcases h.2 with ⟨rfl, _⟩ | ⟨g', cap, cur, rfl, _, hh, _⟩
  · cases hg
  · have : g' = g := by simpa [Value.ownBlock] using hg
    subst this
    exact ⟨cur, _, hh⟩
theorem bld_after {w1 w2 : World} {b : Nat} {t : TypeId} {cs : Array Value} {v : Value} {o : Obj} (hbk : w1.heap[b]? = some (.cells cs t (0, 0))) (hgrow : (w1.alloc o).grownBy w2 v.ownBlock) (hne : v.ownBlock ≠ some b) :
    b < w1.heap.size ∧ w2.heap[b]? = some (.cells cs t (0, 0)) := by
  have hlt : b < w1.heap.size := (Array.getElem?_eq_some_iff.1 hbk).1
  exact ⟨hlt, by rw [hgrow.block b (by simp; omega) (fun e => hne e.symm), Lib.alloc_old w1 _ b hlt]; exact hbk⟩
theorem bld_after' {w1 w2 : World} {b : Nat} {t : TypeId} {cs : Array Value} {v : Value} (hbk : w1.heap[b]? = some (.cells cs t (0, 0))) (hgrow : w1.grownBy w2 v.ownBlock) (hne : v.ownBlock ≠ some b) :
    b < w1.heap.size ∧ w2.heap[b]? = some (.cells cs t (0, 0)) := by
  have hlt : b < w1.heap.size := (Array.getElem?_eq_some_iff.1 hbk).1
  exact ⟨hlt, by rw [hgrow.block b hlt (fun e => hne e.symm)]; exact hbk⟩
set_option maxHeartbeats 1000000 in
set_option maxRecDepth 100000 in
theorem writeByte_any {w : World} {B b : Nat} {l : Bs} (h : Bld w B b l) (c : UInt8) (hlen : l.length ≤ 1000000000) (hBw : B ≤ w.heap.size) :
    Calls Tryz.prog 45 #[.pointer (some ⟨b, 0, none⟩), .int .u8 (c.toNat : Int)] w fun e w' => e = .returned .nilIface ∧ Bld w' B b (l ++ [c]) ∧ Below B w w' ∧ Lib.OthersKept 5 (some b) w w' := by
  obtain ⟨i0, hi, hz0, hz1, hz2⟩ := info_parts bld_info
  have hl := bytes_len l
  have HL := Lib.hid hl
  have HB := Lib.hid (copy_any B b (Lib.byteCells l) w h)
  clear hl h
  go_enter Tryz.func45, Tryz.ntmps45
  go_wp2_with fail
  refine HB.out.mono ?_
  rintro e w1 ⟨rfl, h1, hb1, ko1⟩
  obtain ⟨hB, v, hbk, hown, hne⟩ := h1
  have c1 : w1.cell? ⟨b, 1, none⟩ = some v := by rw [Lib.cell_of_heap hbk]; rfl
  have HBK := Lib.hid hbk
  have HO := Lib.hid hown
  have HB1 := Lib.hid hb1
  have KO1 := Lib.hid ko1
  have HS := Lib.hid (show B ≤ (w1.alloc (.cells #[.int .u8 (c.toNat : Int)] 5)).heap.size by have := hb1.size; simp; omega)
  have HM := Lib.hid (show (Lib.byteCells l).length + 1 ≤ maxLen ∧ ((Lib.byteCells l).length + 1) * 1 ≤ 140737488355328 by rw [HL.out]; simp only [maxLen]; omega)
  clear hbk hown hb1 ko1
  go_wp2_with (at_builtin; refine wpList_append_own _ rfl _ _ 80 rfl B 5 i0 (.int .u8 0) 1 1 Tryz.underlying80 hi hz0 hz1 hz2 rfl (by decide) _ _ _ rfl (HO.out.alloc _) ⟨w1.heap.size, 0, none⟩ 1 1 [.int .u8 (c.toNat : Int)] rfl rfl (World.news_of_block (heap_alloc_new _ _)) (by simp [Value.oneCell']) HM.out.1 HM.out.2 HS.out ?_)
  intro vv w2 hown' hgrow hnn
  obtain ⟨hlt, hb2⟩ := bld_after HBK.out (o := .cells #[.int .u8 (c.toNat : Int)] 5) hgrow hne
  have d1 : w2.cell? ⟨b, 1, none⟩ = some v := by rw [Lib.cell_of_heap hb2]; rfl
  have f1 : w2.frozen? ⟨b, 1, none⟩ = false := Lib.frozen_of_heap hb2 1
  obtain ⟨g, cap, rfl⟩ : ∃ g cap, vv = .slice (some ⟨g, 0, none⟩) ((Lib.byteCells l).length + 1) cap := by
    rcases hown'.2 with ⟨_, h0⟩ | ⟨g, cap, cur, hv, _⟩
    · omega
    · exact ⟨g, cap, hv⟩
  have e : Lib.byteCells (l ++ [c]) = Lib.byteCells l ++ [.int .u8 (c.toNat : Int)] := by simp [Lib.byteCells]
  have HO2 := Lib.hid hown'
  have HE := Lib.hid e
  have HG := Lib.hid hgrow
  have HB2 := Lib.hid hb2
  clear hown' e hgrow hb2 hnn
  go_wp2
  go_ret
  refine ⟨rfl, .inr ?_, ?_, ?_⟩
  · exact Lib.BuilderAt.put (T := 82) (e := 5) hB HB2.out (bs' := Lib.byteCells (l ++ [c])) (by rw [HE.out]; simpa using HO2.out) (by decide)
  · exact ((HB1.out.alloc (by have := HB1.out.size; omega) _).grown HG.out (by have := HB1.out.size; simp; omega) (fun k hk => (HO.out.lt k hk).1)).setCell (p := ⟨b, 1, none⟩) hB _
  · exact ((KO1.out.alloc _).grown HG.out (bld_kind (HO.out.alloc _))).setCell ⟨b, 1, none⟩ rfl _
set_option maxHeartbeats 1000000 in
set_option maxRecDepth 100000 in
theorem writeString_any {w : World} {B b : Nat} {l : Bs} (h : Bld w B b l) (s : Bs) (hlen : l.length ≤ 1000000000) (hs : s.length ≤ 1000000000) (hBw : B ≤ w.heap.size) :
    Calls Tryz.prog 46 #[.pointer (some ⟨b, 0, none⟩), .string (bs s)] w fun e w' => e = .returned (.tuple #[.int .i64 s.length, .nilIface]) ∧ Bld w' B b (l ++ s) ∧ Below B w w' ∧ Lib.OthersKept 5 (some b) w w' := by
  obtain ⟨i0, hi, hz0, hz1, hz2⟩ := info_parts bld_info
  have hl := bytes_len l
  have HL := Lib.hid hl
  have HB := Lib.hid (copy_any B b (Lib.byteCells l) w h)
  clear hl h
  go_enter Tryz.func46, Tryz.ntmps46
  go_wp2_with fail
  refine HB.out.mono ?_
  rintro e w1 ⟨rfl, h1, hb1, ko1⟩
  obtain ⟨hB, v, hbk, hown, hne⟩ := h1
  have c1 : w1.cell? ⟨b, 1, none⟩ = some v := by rw [Lib.cell_of_heap hbk]; rfl
  have HBK := Lib.hid hbk
  have HO := Lib.hid hown
  have HB1 := Lib.hid hb1
  have KO1 := Lib.hid ko1
  have HS := Lib.hid (show B ≤ w1.heap.size by have := hb1.size; omega)
  have HM := Lib.hid (show (Lib.byteCells l).length + (bs s).size ≤ maxLen ∧ (Lib.byteCells l).length + (bs s).size ≤ 140737488355328 by rw [HL.out, bs_size]; simp only [maxLen]; omega)
  clear hbk hown hb1 ko1
  go_wp2_with (at_builtin; refine Lib.wpList_append_own_string _ rfl _ _ 80 9 rfl B 5 i0 Tryz.underlying80 Tryz.underlying9 hi hz0 hz1 hz2 _ _ _ rfl HO.out (bs s) rfl HM.out.1 HM.out.2 HS.out ?_)
  intro vv w2 hown' hgrow hnn
  obtain ⟨hlt, hb2⟩ := bld_after' HBK.out hgrow hne
  have d1 : w2.cell? ⟨b, 1, none⟩ = some v := by rw [Lib.cell_of_heap hb2]; rfl
  have f1 : w2.frozen? ⟨b, 1, none⟩ = false := Lib.frozen_of_heap hb2 1
  obtain ⟨ao, n', cap, rfl⟩ : ∃ ao n' cap, vv = .slice ao n' cap := by
    rcases hown'.2 with ⟨hv, _⟩ | ⟨g, cap, cur, hv, _⟩
    · exact ⟨_, _, _, hv⟩
    · exact ⟨_, _, _, hv⟩
  have e : Lib.byteCells (l ++ s) = Lib.byteCells l ++ Lib.strCells (bs s) := by simp [Lib.byteCells, Lib.strCells, bs]
  have HO2 := Lib.hid hown'
  have HE := Lib.hid e
  have HG := Lib.hid hgrow
  have HB2 := Lib.hid hb2
  clear hown' e hgrow hb2 hnn
  go_wp2
  go_ret2
  refine ⟨rfl, .inr ?_, ?_, ?_⟩
  · exact Lib.BuilderAt.put (T := 82) (e := 5) hB HB2.out (bs' := Lib.byteCells (l ++ s)) (by rw [HE.out, List.length_append, Lib.strCells_length, bs_size]; exact HO2.out) (by decide)
  · exact (HB1.out.grown HG.out (by have := HB1.out.size; omega) (fun k hk => (HO.out.lt k hk).1)).setCell (p := ⟨b, 1, none⟩) hB _
  · exact (KO1.out.grown HG.out (bld_kind HO.out)).setCell ⟨b, 1, none⟩ rfl _
theorem Bld.alloc {w : World} {B b : Nat} {l : Bs} (h : Bld w B b l) (o : Obj) : Bld (w.alloc o) B b l := by
  have key : ∀ p, Lib.BuilderAt 82 5 B b p (Lib.byteCells l) w → Lib.BuilderAt 82 5 B b p (Lib.byteCells l) (w.alloc o) := fun p hp => by
    obtain ⟨h1, v, h2, h3, h4⟩ := hp
    exact ⟨h1, v, (Lib.alloc_old w o b (Array.getElem?_eq_some_iff.1 h2).1).trans h2, h3.alloc o, h4⟩
  rcases h with h | h
  · exact .inl (key _ h)
  · exact .inr (key _ h)
theorem Bld.keep {w w' : World} {B b : Nat} {l : Bs} (h : Bld w B b l) (hk : Keeps [] w w') : Bld w' B b l := by
  have key : ∀ p, Lib.BuilderAt 82 5 B b p (Lib.byteCells l) w → Lib.BuilderAt 82 5 B b p (Lib.byteCells l) w' := fun p hp => by
    obtain ⟨h1, v, h2, h3, h4⟩ := hp
    exact ⟨h1, v, (hk.block b (Array.getElem?_eq_some_iff.1 h2).1 (by simp)).trans h2, own_keep h3 hk (by simp), h4⟩
  rcases h with h | h
  · exact .inl (key _ h)
  · exact .inr (key _ h)
theorem Bld.lt {w : World} {B b : Nat} {l : Bs} (h : Bld w B b l) : b < w.heap.size := by
  rcases h with ⟨_, v, h2, _⟩ | ⟨_, v, h2, _⟩
  · exact (Array.getElem?_eq_some_iff.1 h2).1
  · exact (Array.getElem?_eq_some_iff.1 h2).1
theorem Bld.drew {w : World} {B b : Nat} {l : Bs} (h : Bld w B b l) : Bld w.drew B b l := h
/-- Nothing of what was there below the builder turns. -/
theorem Keeps.under {w0 w w' : World} (hk : Keeps [] w0 w) (hb : Below w0.heap.size w w') : Keeps [] w0 w' :=
  ⟨hb.os.trans hk.os, hb.output.trans hk.output, Nat.le_trans hk.size hb.size, fun k h1 _ => (hb.block k h1).trans (hk.block k h1 (by simp))⟩
/-- A block of another kind stands while a builder is written. -/
theorem Blk.beside {w w' : World} {g b : Nat} {t e : TypeId} {cs : Array Value} (h : Blk w g t cs) (hk : Lib.OthersKept e (some b) w w') (hg : g ≠ b) (ht : t ≠ e) : Blk w' g t cs :=
  hk g _ h (by simpa using hg) (fun c fz he => by injection he with _ h2; exact ht h2)
/-- A fresh builder. -/
theorem bld_new (w : World) : Bld (w.alloc (.cells #[.pointer none, .slice none 0 0] 82)) w.heap.size w.heap.size [] := Lib.fresh_isBuilder _ _ w
end Go.Proofs.YtodjaomghmcoiaaGreatDoor
