/- strings.Builder, at this program: WriteByte, WriteString, String. table.Value, table.Print. ops: compared. -/
import Derived.Test.YtomgnjgaafnkiaaGreatDoorOncM2
import Derived.Shelf.Strings.Builder1
import Derived.Lib.OthersKept
import Derived.Test.YtomgnjgaafnkiaaGreatDoorOncM6
import Derived.Sort.Grow
import Derived.Lib.ItoaLen
namespace Go.Proofs.YtomgnjgaafnkiaaGreatDoor
open Go.RowKit
attribute [local go_sem] bs_size bs_extract bs_append bs_toList
/-- A builder at b holds the bytes l; all of it lies from block B on. -/
def Bld (w : World) (B b : Nat) (l : Bs) : Prop := Lib.IsBuilder 102 5 B b (Lib.byteCells l) w
theorem bytes_len (l : Bs) : (Lib.byteCells l).length = l.length := by simp [Lib.byteCells]
theorem bld_info : (Tryz.prog.info? 5).map (fun i => (i.zero, i.size, i.bytes)) = some (some (.int .u8 0), 1, 1) := by kernel_rfl
theorem bld_size : (Tryz.prog.info? 102).map (·.size) = some 2 := by kernel_rfl
theorem bld_lies : liesAt Tryz.prog Tryz.prog.depth 102 (2 / Tryz.prog.cellsOf 102) 0 102 1 = true := by kernel_rfl
set_option maxHeartbeats 1000000 in
set_option maxRecDepth 100000 in
theorem copy_fresh (b : Nat) (w : World) (h0 : w.cell? ⟨b, 0, none⟩ = some (.pointer none)) (hsh : w.shape? b = some (102, 2)) (hfz : w.frozen? ⟨b, 0, none⟩ = false) :
    Calls Tryz.prog 86 #[.pointer (some ⟨b, 0, none⟩)] w fun e w' => e = .returned (.tuple #[]) ∧ w' = w.setCell ⟨b, 0, none⟩ (.pointer (some ⟨b, 0, none⟩)) := by
  obtain ⟨j, hj, hjs⟩ := Option.map_eq_some_iff.1 bld_size
  go_enter Tryz.func86, Tryz.ntmps86
  go_wp2
  rw [Lib.run_to_unsafe w ⟨b, 0, none⟩ Tryz.underlying99 Tryz.underlying141 hj (by rw [hjs]; decide) hsh (Nat.zero_lt_succ 1)]
  simp only [Result.andThen]
  rw [Oper.upon_value]
  go_wp2
  rw [run_callFunc_extern Tryz.func108 (by kernel_rfl) (by kernel_rfl) (by kernel_rfl) (e := Extern.AbiNoEscape.same) (by kernel_rfl)]
  rw [Lib.run_noEscape]
  simp only [Result.andThen]
  rw [Oper.upon_value]
  go_wp2
  rw [Lib.run_from_unsafe w ⟨b, 0, none⟩ Tryz.underlying141 Tryz.underlying99 hj hsh bld_lies]
  simp only [Result.andThen]
  rw [Oper.upon_value]
  go_wp2
  go_end0
  exact ⟨rfl, rfl⟩
set_option maxRecDepth 100000 in
theorem copy_used (b : Nat) (w : World) (h0 : w.cell? ⟨b, 0, none⟩ = some (.pointer (some ⟨b, 0, none⟩))) :
    Calls Tryz.prog 86 #[.pointer (some ⟨b, 0, none⟩)] w fun e w' => e = .returned (.tuple #[]) ∧ w' = w := by
  obtain ⟨j, hj, hjs⟩ := Option.map_eq_some_iff.1 bld_size
  go_enter Tryz.func86, Tryz.ntmps86
  go_wp2
  rw [Lib.run_neq_ptr_same w _ Tryz.underlying99 hj]
  go_wp2
  go_end0
  exact ⟨rfl, rfl⟩
theorem copy_any (B b : Nat) (bs : List Value) (w : World) (h : Lib.IsBuilder 102 5 B b bs w) :
    Calls Tryz.prog 86 #[.pointer (some ⟨b, 0, none⟩)] w fun e w' => e = .returned (.tuple #[]) ∧ (Lib.BuilderAt 102 5 B b (.pointer (some ⟨b, 0, none⟩)) bs w' ∧ Below B w w' ∧ Lib.OthersKept 5 (some b) w w') := by
  rcases h with h | h
  · refine (copy_fresh b w h.cell0 h.shape h.frozen0).mono ?_
    rintro e w' ⟨rfl, rfl⟩
    exact ⟨rfl, h.used _, (Below.refl B w).setCell (p := ⟨b, 0, none⟩) h.1 _, Lib.OthersKept.setCell (b := b) (Lib.OthersKept.refl _ _ _) ⟨b, 0, none⟩ rfl _⟩
  · refine (copy_used b w h.cell0).mono ?_
    rintro e w' ⟨rfl, rfl⟩
    exact ⟨rfl, h, Below.refl B _, Lib.OthersKept.refl _ _ _⟩
theorem bld_kind {w : World} {B : Nat} {e : TypeId} {v : Value} {n : Nat} {xs : List Value} (h : w.ownsRow B e 1 v n xs) : ∀ g, v.ownBlock = some g → ∃ c fz, w.heap[g]? = some (.cells c e fz) := fun g hg => by
  rcases h.2 with ⟨rfl, _⟩ | ⟨g', cap, cur, rfl, _, hh, _⟩
  · cases hg
  · have : g' = g := by simpa [Value.ownBlock] using hg
    subst this
    exact ⟨cur, _, hh⟩
theorem bld_after {w1 w2 : World} {b : Nat} {t : TypeId} {cs : Array Value} {v : Value} {o : Obj} (hbk : w1.heap[b]? = some (.cells cs t (0, 0))) (hgrow : (w1.alloc o).grownBy w2 v.ownBlock) (hne : v.ownBlock ≠ some b) :
    b < w1.heap.size ∧ w2.heap[b]? = some (.cells cs t (0, 0)) := by
  have hlt : b < w1.heap.size := (Array.getElem?_eq_some_iff.1 hbk).1
  exact ⟨hlt, by rw [hgrow.block b (by simp; omega) (fun e => hne e.symm), Lib.alloc_old w1 _ b hlt]; exact hbk⟩
theorem bld_after' {w1 w2 : World} {b : Nat} {t : TypeId} {cs : Array Value} {v : Value} (hbk : w1.heap[b]? = some (.cells cs t (0, 0))) (hgrow : w1.grownBy w2 v.ownBlock) (hne : v.ownBlock ≠ some b) :
    b < w1.heap.size ∧ w2.heap[b]? = some (.cells cs t (0, 0)) := by
  have hlt : b < w1.heap.size := (Array.getElem?_eq_some_iff.1 hbk).1
  exact ⟨hlt, by rw [hgrow.block b hlt (fun e => hne e.symm)]; exact hbk⟩
set_option maxHeartbeats 1000000 in
set_option maxRecDepth 100000 in
theorem writeByte_any {w : World} {B b : Nat} {l : Bs} (h : Bld w B b l) (c : UInt8) (hlen : l.length ≤ 1000000000) (hBw : B ≤ w.heap.size) :
    Calls Tryz.prog 59 #[.pointer (some ⟨b, 0, none⟩), .int .u8 (c.toNat : Int)] w fun e w' => e = .returned .nilIface ∧ Bld w' B b (l ++ [c]) ∧ Below B w w' ∧ Lib.OthersKept 5 (some b) w w' := by
  obtain ⟨i0, hi, hz0, hz1, hz2⟩ := info_parts bld_info
  have hl := bytes_len l
  have HL := Lib.hid hl
  have HB := Lib.hid (copy_any B b (Lib.byteCells l) w h)
  clear hl h
  go_enter Tryz.func59, Tryz.ntmps59
  go_wp2_with fail
  refine HB.out.mono ?_
  rintro e w1 ⟨rfl, h1, hb1, ko1⟩
  obtain ⟨hB, v, hbk, hown, hne⟩ := h1
  have c1 : w1.cell? ⟨b, 1, none⟩ = some v := by rw [Lib.cell_of_heap hbk]; rfl
  have HBK := Lib.hid hbk
  have HO := Lib.hid hown
  have HB1 := Lib.hid hb1
  have KO1 := Lib.hid ko1
  have HS := Lib.hid (show B ≤ (w1.alloc (.cells #[.int .u8 (c.toNat : Int)] 5)).heap.size by have := hb1.size; simp; omega)
  have HM := Lib.hid (show (Lib.byteCells l).length + 1 ≤ maxLen ∧ ((Lib.byteCells l).length + 1) * 1 ≤ 140737488355328 by rw [HL.out]; simp only [maxLen]; omega)
  clear hbk hown hb1 ko1
  go_wp2_with (at_builtin; refine wpList_append_own _ rfl _ _ 100 rfl B 5 i0 (.int .u8 0) 1 1 Tryz.underlying100 hi hz0 hz1 hz2 rfl (by decide) _ _ _ rfl (HO.out.alloc _) ⟨w1.heap.size, 0, none⟩ 1 1 [.int .u8 (c.toNat : Int)] rfl rfl (World.news_of_block (heap_alloc_new _ _)) (by simp [Value.oneCell']) HM.out.1 HM.out.2 HS.out ?_)
  intro vv w2 hown' hgrow hnn
  obtain ⟨hlt, hb2⟩ := bld_after HBK.out (o := .cells #[.int .u8 (c.toNat : Int)] 5) hgrow hne
  have d1 : w2.cell? ⟨b, 1, none⟩ = some v := by rw [Lib.cell_of_heap hb2]; rfl
  have f1 : w2.frozen? ⟨b, 1, none⟩ = false := Lib.frozen_of_heap hb2 1
  obtain ⟨g, cap, rfl⟩ : ∃ g cap, vv = .slice (some ⟨g, 0, none⟩) ((Lib.byteCells l).length + 1) cap := by
    rcases hown'.2 with ⟨_, h0⟩ | ⟨g, cap, cur, hv, _⟩
    · omega
    · exact ⟨g, cap, hv⟩
  have e : Lib.byteCells (l ++ [c]) = Lib.byteCells l ++ [.int .u8 (c.toNat : Int)] := by simp [Lib.byteCells]
  have HO2 := Lib.hid hown'
  have HE := Lib.hid e
  have HG := Lib.hid hgrow
  have HB2 := Lib.hid hb2
  clear hown' e hgrow hb2 hnn
  go_wp2
  go_ret
  refine ⟨rfl, .inr ?_, ?_, ?_⟩
  · exact Lib.BuilderAt.put (T := 102) (e := 5) hB HB2.out (bs' := Lib.byteCells (l ++ [c])) (by rw [HE.out]; simpa using HO2.out) (by decide)
  · exact ((HB1.out.alloc (by have := HB1.out.size; omega) _).grown HG.out (by have := HB1.out.size; simp; omega) (fun k hk => (HO.out.lt k hk).1)).setCell (p := ⟨b, 1, none⟩) hB _
  · exact ((KO1.out.alloc _).grown HG.out (bld_kind (HO.out.alloc _))).setCell ⟨b, 1, none⟩ rfl _
set_option maxHeartbeats 1000000 in
set_option maxRecDepth 100000 in
theorem writeString_any {w : World} {B b : Nat} {l : Bs} (h : Bld w B b l) (s : Bs) (hlen : l.length ≤ 1000000000) (hs : s.length ≤ 1000000000) (hBw : B ≤ w.heap.size) :
    Calls Tryz.prog 60 #[.pointer (some ⟨b, 0, none⟩), .string (bs s)] w fun e w' => e = .returned (.tuple #[.int .i64 s.length, .nilIface]) ∧ Bld w' B b (l ++ s) ∧ Below B w w' ∧ Lib.OthersKept 5 (some b) w w' := by
  obtain ⟨i0, hi, hz0, hz1, hz2⟩ := info_parts bld_info
  have hl := bytes_len l
  have HL := Lib.hid hl
  have HB := Lib.hid (copy_any B b (Lib.byteCells l) w h)
  clear hl h
  go_enter Tryz.func60, Tryz.ntmps60
  go_wp2_with fail
  refine HB.out.mono ?_
  rintro e w1 ⟨rfl, h1, hb1, ko1⟩
  obtain ⟨hB, v, hbk, hown, hne⟩ := h1
  have c1 : w1.cell? ⟨b, 1, none⟩ = some v := by rw [Lib.cell_of_heap hbk]; rfl
  have HBK := Lib.hid hbk
  have HO := Lib.hid hown
  have HB1 := Lib.hid hb1
  have KO1 := Lib.hid ko1
  have HS := Lib.hid (show B ≤ w1.heap.size by have := hb1.size; omega)
  have HM := Lib.hid (show (Lib.byteCells l).length + (bs s).size ≤ maxLen ∧ (Lib.byteCells l).length + (bs s).size ≤ 140737488355328 by rw [HL.out, bs_size]; simp only [maxLen]; omega)
  clear hbk hown hb1 ko1
  go_wp2_with (at_builtin; refine Lib.wpList_append_own_string _ rfl _ _ 100 9 rfl B 5 i0 Tryz.underlying100 Tryz.underlying9 hi hz0 hz1 hz2 _ _ _ rfl HO.out (bs s) rfl HM.out.1 HM.out.2 HS.out ?_)
  intro vv w2 hown' hgrow hnn
  obtain ⟨hlt, hb2⟩ := bld_after' HBK.out hgrow hne
  have d1 : w2.cell? ⟨b, 1, none⟩ = some v := by rw [Lib.cell_of_heap hb2]; rfl
  have f1 : w2.frozen? ⟨b, 1, none⟩ = false := Lib.frozen_of_heap hb2 1
  obtain ⟨ao, n', cap, rfl⟩ : ∃ ao n' cap, vv = .slice ao n' cap := by
    rcases hown'.2 with ⟨hv, _⟩ | ⟨g, cap, cur, hv, _⟩
    · exact ⟨_, _, _, hv⟩
    · exact ⟨_, _, _, hv⟩
  have e : Lib.byteCells (l ++ s) = Lib.byteCells l ++ Lib.strCells (bs s) := by simp [Lib.byteCells, Lib.strCells, bs]
  have HO2 := Lib.hid hown'
  have HE := Lib.hid e
  have HG := Lib.hid hgrow
  have HB2 := Lib.hid hb2
  clear hown' e hgrow hb2 hnn
  go_wp2
  go_ret2
  refine ⟨rfl, .inr ?_, ?_, ?_⟩
  · exact Lib.BuilderAt.put (T := 102) (e := 5) hB HB2.out (bs' := Lib.byteCells (l ++ s)) (by rw [HE.out, List.length_append, Lib.strCells_length, bs_size]; exact HO2.out) (by decide)
  · exact (HB1.out.grown HG.out (by have := HB1.out.size; omega) (fun k hk => (HO.out.lt k hk).1)).setCell (p := ⟨b, 1, none⟩) hB _
  · exact (KO1.out.grown HG.out (bld_kind HO.out)).setCell ⟨b, 1, none⟩ rfl _
theorem Bld.alloc {w : World} {B b : Nat} {l : Bs} (h : Bld w B b l) (o : Obj) : Bld (w.alloc o) B b l := by
  have key : ∀ p, Lib.BuilderAt 102 5 B b p (Lib.byteCells l) w → Lib.BuilderAt 102 5 B b p (Lib.byteCells l) (w.alloc o) := fun p hp => by
    obtain ⟨h1, v, h2, h3, h4⟩ := hp
    exact ⟨h1, v, (Lib.alloc_old w o b (Array.getElem?_eq_some_iff.1 h2).1).trans h2, h3.alloc o, h4⟩
  rcases h with h | h
  · exact .inl (key _ h)
  · exact .inr (key _ h)
theorem Bld.keep {w w' : World} {B b : Nat} {l : Bs} (h : Bld w B b l) (hk : Keeps [] w w') : Bld w' B b l := by
  have key : ∀ p, Lib.BuilderAt 102 5 B b p (Lib.byteCells l) w → Lib.BuilderAt 102 5 B b p (Lib.byteCells l) w' := fun p hp => by
    obtain ⟨h1, v, h2, h3, h4⟩ := hp
    exact ⟨h1, v, (hk.block b (Array.getElem?_eq_some_iff.1 h2).1 (by simp)).trans h2, own_keep h3 hk (by simp), h4⟩
  rcases h with h | h
  · exact .inl (key _ h)
  · exact .inr (key _ h)
theorem Bld.lt {w : World} {B b : Nat} {l : Bs} (h : Bld w B b l) : b < w.heap.size := by
  rcases h with ⟨_, v, h2, _⟩ | ⟨_, v, h2, _⟩
  · exact (Array.getElem?_eq_some_iff.1 h2).1
  · exact (Array.getElem?_eq_some_iff.1 h2).1
theorem Bld.drew {w : World} {B b : Nat} {l : Bs} (h : Bld w B b l) : Bld w.drew B b l := h
/-- Nothing of what was there below the builder turns. -/
theorem Keeps.under {w0 w w' : World} (hk : Keeps [] w0 w) (hb : Below w0.heap.size w w') : Keeps [] w0 w' :=
  ⟨hb.os.trans hk.os, hb.output.trans hk.output, Nat.le_trans hk.size hb.size, fun k h1 _ => (hb.block k h1).trans (hk.block k h1 (by simp))⟩
/-- A block of another kind stands while a builder is written. -/
theorem Blk.beside {w w' : World} {g b : Nat} {t e : TypeId} {cs : Array Value} (h : Blk w g t cs) (hk : Lib.OthersKept e (some b) w w') (hg : g ≠ b) (ht : t ≠ e) : Blk w' g t cs :=
  hk g _ h (by simpa using hg) (fun c fz he => by injection he with _ h2; exact ht h2)
/-- A fresh builder. -/
theorem bld_new (w : World) : Bld (w.alloc (.cells #[.pointer none, .slice none 0 0] 102)) w.heap.size w.heap.size [] := Lib.fresh_isBuilder _ _ w
end Go.Proofs.YtomgnjgaafnkiaaGreatDoor
namespace Go.Proofs.YtomgnjgaafnkiaaGreatDoor
open Go.RowKit Go.Sort
attribute [local go_sem] bs_size bs_extract bs_append bs_toList
/-- The package-level variables that tables lean on. -/
structure TEnv (w : World) : Prop where
  p10 : Lib.TabIs Tryz.prog w "internal/strconv.uint64pow10" .u64 Lib.pow10Tab
  kinds : ∀ j, j < 3 → w.cell? ⟨0, j, none⟩ = some (.string (bs (kindW j)))
  mlen : ∃ m, w.cell? ⟨2, 0, none⟩ = some (.int .i64 m)
  esyn : ∃ t p, w.cell? ⟨3, 0, none⟩ = some (.iface t p)
  erng : ∃ t p, w.cell? ⟨4, 0, none⟩ = some (.iface t p)
theorem tabIs_quiet {P : Program} {w w' : World} {nm : String} {k : IntKind} {zs : List Int} (h : Lib.TabIs P w nm k zs) (hk : Keeps [] w w') : Lib.TabIs P w' nm k zs := by
  unfold Lib.TabIs World.var? at *
  cases hg : P.globalNamed nm with
  | none => rw [hg] at h; cases h
  | some g =>
    rw [hg] at h
    simp only [Option.bind_some] at h ⊢
    cases hh : w.heap[g]? with
    | none => rw [hh] at h; cases h
    | some o =>
      have hlt : g < w.heap.size := (Array.getElem?_eq_some_iff.1 hh).1
      rw [hk.block g hlt (by simp)]
      exact h
theorem TEnv.quiet {w w' : World} (h : TEnv w) (hk : Keeps [] w w') : TEnv w' :=
  ⟨tabIs_quiet h.p10 hk, fun j hj => hk.cell_of (h.kinds j hj) (by simp), by obtain ⟨m, hm⟩ := h.mlen; exact ⟨m, hk.cell_of hm (by simp)⟩,
   by obtain ⟨t, p, hm⟩ := h.esyn; exact ⟨t, p, hk.cell_of hm (by simp)⟩, by obtain ⟨t, p, hm⟩ := h.erng; exact ⟨t, p, hk.cell_of hm (by simp)⟩⟩
theorem keeps_grow (w : World) (os : Array Obj) : Keeps [] w (grow w os) :=
  ⟨rfl, rfl, by unfold grow; simp, fun k hk _ => by unfold grow; exact Array.getElem?_append_left hk⟩
theorem value_any (v : Vl) (hn : numOk v.num) (hw : v.word.length ≤ 1000000000) (w : World) (hE : TEnv w) :
    Calls Tryz.prog 61 #[vAgg v] w fun e w' => e = .returned (.string (bs (valueL v))) ∧ Keeps [] w w' := by
  obtain ⟨k, n, s⟩ := v
  simp only at hn hw
  show Calls _ _ #[.agg #[.int .i64 k, .int .i64 n, .string (bs s)]] w _
  have HE := Lib.hid hE
  have HN := Lib.hid hn
  clear hE hn
  by_cases h1 : k = 1
  · have hb1 : (k == 1) = true := by rw [h1]; rfl
    have HF : Hid (valueL ⟨k, n, s⟩ = Lib.itoa n) := Lib.hid (if_pos h1)
    clear h1
    go_enter Tryz.func61, Tryz.ntmps61
    go_wp2_with fail
    refine (Tryz.strconv_Itoa n HN.out.1 HN.out.2 _ (HE.out.quiet ((Keeps.refl _ _).alloc _)).p10).mono ?_
    rintro e w' ⟨rfl, k2, os, rfl⟩
    go_wp2
    go_ret
    exact ⟨by rw [HF.out]; rfl, (((Keeps.refl _ _).alloc _).drewN _).trans (keeps_grow _ _)⟩
  · have hb1 : (k == 1) = false := by rw [beq_eq_false_iff_ne]; exact h1
    have HF : Hid (valueL ⟨k, n, s⟩ = [39] ++ s ++ [39]) := Lib.hid (if_neg h1)
    clear h1
    go_enter Tryz.func61, Tryz.ntmps61
    go_wp2
    go_ret
    exact ⟨by rw [HF.out, ← bs_append, ← bs_append]; rfl, (Keeps.refl _ _).alloc _⟩
theorem kindW_len (j : Nat) : (kindW j).length ≤ 4 := by unfold kindW; split <;> simp
theorem nameB_len {s : Bs} (h : nameB s = true) : s.length ≤ 10 := by
  unfold nameB at h
  simp only [Bool.and_eq_true, decide_eq_true_eq] at h
  exact h.1.1.2
theorem okCol_of {l : List Cl} (h : colsB l = true) {n : Nat} (hn : n < l.length) : nameB l[n].name = true ∧ (l[n].kind = 1 ∨ l[n].kind = 2) := by
  unfold colsB at h
  simp only [Bool.and_eq_true, List.all_eq_true] at h
  have := h.2 n (List.mem_range.2 hn)
  unfold okCol at this
  rw [List.getElem?_eq_getElem hn] at this
  simp only [Bool.and_eq_true, Bool.or_eq_true, decide_eq_true_eq] at this
  exact this.1
theorem colsT_succ (l : List Cl) (k : Nat) (h : k < l.length) : colsT l (k + 1) = colsT l k ++ (if k = 0 then [] else [32]) ++ (l[k].name ++ [58] ++ kindW l[k].kind.toNat) := by
  conv => lhs; unfold colsT
  rw [List.getElem?_eq_getElem h]
theorem rowT_succ (r : List Vl) (k : Nat) (h : k < r.length) : rowT r (k + 1) = rowT r k ++ (if k = 0 then [] else [32]) ++ valueL r[k] := by
  conv => lhs; unfold rowT
  rw [List.getElem?_eq_getElem h]
theorem rowsT_succ (rs : List (List Vl)) (k : Nat) (h : k < rs.length) : rowsT rs (k + 1) = rowsT rs k ++ (rowT rs[k] rs[k].length ++ [10]) := by
  conv => lhs; unfold rowsT
  rw [List.getElem?_eq_getElem h]
theorem colsT_len {l : List Cl} (h : colsB l = true) : ∀ k, k ≤ l.length → (colsT l k).length ≤ 16 * k
  | 0, _ => Nat.zero_le _
  | k + 1, hk => by
    have ih := colsT_len h k (by omega)
    have h1 := nameB_len (okCol_of h (n := k) (by omega)).1
    have h2 := kindW_len (l[k]'(by omega)).kind.toNat
    rw [colsT_succ l k (by omega)]
    simp only [List.length_append, List.length_cons, List.length_nil]
    have h3 : (if k = 0 then ([] : Bs) else [32]).length ≤ 1 := by split <;> simp
    omega
theorem rv_len {v : Vl} (h : rvB v = true) : (valueL v).length ≤ 21 ∧ numOk v.num ∧ v.word.length ≤ 16 := by
  unfold rvB at h
  unfold valueL numOk
  by_cases h1 : v.kind = 1
  · rw [if_pos h1] at h ⊢
    simp only [Bool.and_eq_true, decide_eq_true_eq, beq_iff_eq] at h
    have := Lib.itoa_length_le v.num (by omega) (by omega)
    exact ⟨this, ⟨by omega, by omega⟩, by rw [h.1.1]; simp⟩
  · rw [if_neg h1] at h ⊢
    by_cases h2 : v.kind = 2
    · rw [if_pos h2] at h
      simp only [Bool.and_eq_true, decide_eq_true_eq] at h
      refine ⟨?_, ⟨by omega, by omega⟩, h.1.2⟩
      simp; omega
    · rw [if_neg h2] at h; cases h
theorem rowB_of {cs : List Cl} {r : List Vl} (h : rowB cs r = true) : r.length = cs.length ∧ ∀ i (hi : i < r.length), rvB r[i] = true := by
  unfold rowB at h
  simp only [Bool.and_eq_true, decide_eq_true_eq, List.all_eq_true] at h
  refine ⟨h.1, fun i hi => ?_⟩
  have := h.2 i (List.mem_range.2 hi)
  unfold okAt at this
  rw [List.getElem?_eq_getElem hi, List.getElem?_eq_getElem (by omega)] at this
  simp only [Bool.and_eq_true] at this
  exact this.2
theorem rowT_len {cs : List Cl} {r : List Vl} (h : rowB cs r = true) : ∀ k, k ≤ r.length → (rowT r k).length ≤ 22 * k
  | 0, _ => Nat.zero_le _
  | k + 1, hk => by
    have ih := rowT_len h k (by omega)
    have h1 := (rv_len ((rowB_of h).2 k (by omega))).1
    rw [rowT_succ r k (by omega)]
    simp only [List.length_append]
    have h3 : (if k = 0 then ([] : Bs) else [32]).length ≤ 1 := by split <;> simp
    omega
theorem rightB_of {t : Tb} (h : rightB t = true) : colsB t.cols = true ∧ t.cols.length ≤ 6 ∧ t.rows.length ≤ 60 ∧ ∀ r ∈ t.rows, rowB t.cols r = true := by
  unfold rightB at h
  simp only [Bool.and_eq_true, decide_eq_true_eq, List.all_eq_true] at h
  have hc := h.1.1
  unfold colsB at hc
  simp only [Bool.and_eq_true, decide_eq_true_eq] at hc
  exact ⟨h.1.1, hc.1.2, h.1.2, h.2⟩
theorem rowsT_len {t : Tb} (h : rightB t = true) : ∀ k, k ≤ t.rows.length → (rowsT t.rows k).length ≤ 140 * k
  | 0, _ => Nat.zero_le _
  | k + 1, hk => by
    obtain ⟨h1, h2, h3, h4⟩ := rightB_of h
    have ih := rowsT_len h k (by omega)
    have hr := h4 _ (List.getElem_mem (show k < t.rows.length by omega))
    have h5 := rowT_len hr _ (Nat.le_refl _)
    have h6 := (rowB_of hr).1
    rw [rowsT_succ t.rows k (by omega)]
    simp only [List.length_append, List.length_cons, List.length_nil]
    omega
end Go.Proofs.YtomgnjgaafnkiaaGreatDoor
namespace Go.Proofs.YtomgnjgaafnkiaaGreatDoor
open Go.RowKit Go.BigFrame
attribute [local go_sem] bs_size bs_extract bs_append bs_toList
attribute [local go_sem] KW.cell
/-- The package-level variables that jobs lean on. -/
structure OEnv (w : World) : Prop where
  t : TEnv w
  cmp : ∃ A c, w.cell? ⟨1, 0, none⟩ = some (.slice A 6 c) ∧ Rd w [] 1 A 6 (strs compares)
theorem OEnv.quiet {w w' : World} (h : OEnv w) (hk : Keeps [] w w') : OEnv w' := ⟨h.t.quiet hk, by
  obtain ⟨A, c, h1, h2⟩ := h.cmp
  exact ⟨A, c, hk.cell_of h1 (by simp), h2.keep hk⟩⟩
theorem heads_rep {w : World} {l : List Cl} {A : Option Addr} {c g n : Nat} (hA : Rd w [] 2 A l.length (csCells l)) (hc : l.length ≤ c) (hg : ∀ j, j < n → w.cell? ⟨g, j, none⟩ = some (.slice A l.length c)) : RdHeads w (some ⟨g, 0, none⟩) (List.replicate n l) := by
  refine ⟨List.replicate n (.slice A l.length c), by simp, ⟨by simp, fun h0 => ⟨_, rfl, by simp, ?_, fun j u hu => ?_⟩⟩, fun i h h' => ?_⟩
  · exact World.block_lt_of_cell? _ _ (hg 0 (by simpa using h0))
  · rw [add_at, Nat.zero_add]
    rw [List.getElem?_replicate] at hu
    split at hu
    · rename_i hj
      rw [hg j hj]
      exact hu
    · cases hu
  · rw [List.getElem_replicate, List.getElem_replicate]
    exact ⟨A, c, rfl, hc, hA⟩
set_option maxHeartbeats 8000000 in
theorem compared_any (j : Jb) (a : List Cl) (Ao : Option Addr) (co : Nat) (Ai : Option Addr) (ni ci : Nat) (Ac : Option Addr) (cc : Nat) (A : Option Addr) (c : Nat) (w : World) (hE : OEnv w) (hA : Rd w [] 2 A a.length (csCells a)) (hc : a.length ≤ c) (hl : a.length ≤ 4294967296) :
    Calls Tryz.prog 64 #[jAgg j Ao co Ai ni ci Ac cc, .slice A a.length c] w fun e w' => ColsOut (comparedJ j a) e w' ∧ Keeps [] w w' := by
  have HF0 := Lib.hid (fun (nm : Bs) W (q : Keeps [] w W) => find_any a nm A c W (hA.keep q) hl)
  have HKR := Lib.hid (fun W (q : Keeps [] w W) => kind_any j.right a A c W (hA.keep q) hl)
  have HA := Lib.hid hA
  obtain ⟨Ag, cg, hgc, hgr⟩ := hE.cmp
  have HCT := Lib.hid (fun W (q : Keeps [] w W) => contains_any compares j.op Ag cg W (hgr.keep q) (by decide))
  obtain ⟨R, hR⟩ : ∃ R, comparedJ j a = R := ⟨_, rfl⟩
  rw [hR]
  have HR : Hid (R = if j.op ∉ compares ∨ j.left.col = [] then .error 1
    else match colIx a j.left.col with
      | none => .error 7
      | some k => if kindI j.right a ≠ (a.getD k zC).kind then .error 13 else .ok (List.replicate (if j.code = 9 then 2 else 1) a)) := Lib.hid (by
    rw [← hR]
    unfold comparedJ
    split
    · rfl
    · cases colIx a j.left.col <;> rfl)
  clear hR hA hgr hE
  generalize hkr : kindI j.right a = KR at *
  clear hkr
  obtain ⟨at_, code, outs, ins, cols, op, ⟨lc, lk, ln, lw⟩, ⟨rc, rk, rn, rw'⟩, retry⟩ := j
  simp only at HR
  have HKR' : Hid (∀ W, Keeps [] w W → Calls Tryz.prog 87 #[.agg #[.string (bs rc), .int .i64 rk, .int .i64 rn, .string (bs rw')], .slice A a.length c] W fun e W' => e = .returned (.int .i64 KR) ∧ Keeps [] W W') := HKR
  have HCT' : Hid (∀ W, Keeps [] w W → Calls Tryz.prog 27 #[.slice Ag 6 cg, .string (bs op)] W fun e w' => e = .returned (.bool (decide (op ∈ compares))) ∧ W = w') := HCT
  clear HKR HCT
  have HK0 : Hid (Keeps [] w (w.alloc (.cells #[.int .i64 at_, .int .i64 code, .slice Ao outs.length co, .slice Ai ni ci, .slice Ac cols.length cc, .string (bs op), .string (bs lc), .int .i64 lk, .int .i64 ln, .string (bs lw), .string (bs rc), .int .i64 rk, .int .i64 rn, .string (bs rw'), .int .i64 retry] 36))) := Lib.hid ((Keeps.refl _ _).alloc _)
  have HBX := Lib.hid (Blk.new w 36 #[.int .i64 at_, .int .i64 code, .slice Ao outs.length co, .slice Ai ni ci, .slice Ac cols.length cc, .string (bs op), .string (bs lc), .int .i64 lk, .int .i64 ln, .string (bs lw), .string (bs rc), .int .i64 rk, .int .i64 rn, .string (bs rw'), .int .i64 retry])
  have hgl : 1 < w.heap.size := World.block_lt_of_cell? _ _ hgc
  show Calls _ _ #[.agg #[.int .i64 at_, .int .i64 code, .slice Ao outs.length co, .slice Ai ni ci, .slice Ac cols.length cc, .string (bs op), .string (bs lc), .int .i64 lk, .int .i64 ln, .string (bs lw), .string (bs rc), .int .i64 rk, .int .i64 rn, .string (bs rw'), .int .i64 retry], .slice A a.length c] w _
  by_cases hop : op ∈ compares
  · rw [decide_eq_true hop] at HCT'
    cases lc with
    | nil =>
      have HR2 : Hid (R = .error 1) := Lib.hid (by rw [HR.out, if_pos (.inr rfl)])
      clear HR hop
      go_enter Tryz.func64, Tryz.ntmps64
      go_wp2_with (go_at_call 27; refine (HCT'.out _ HK0.out).mono ?_; rintro e w6 ⟨rfl, rfl⟩)
      go_ret2
      exact ⟨by rw [HR2.out]; rfl, HK0.out⟩
    | cons x tl =>
      have hR2 : R = match colIx a (x :: tl) with
        | none => .error 7
        | some k => if KR ≠ (a.getD k zC).kind then .error 13 else .ok (List.replicate (if code = 9 then 2 else 1) a) := by
        rw [HR.out, if_neg (by
          rintro (h | h)
          · exact h hop
          · cases h)]
      have HR2 := Lib.hid hR2
      have HF := Lib.hid (HF0.out (x :: tl))
      clear HR hop hR2 HF0
      cases hci : colIx a (x :: tl) with
      | none =>
        rw [hci] at HF HR2
        have HR3 : Hid (R = .error 7) := HR2
        clear HR2 hci
        go_enter Tryz.func64, Tryz.ntmps64
        go_wp2_with (go_at_call 27; refine (HCT'.out _ HK0.out).mono ?_; rintro e w6 ⟨rfl, rfl⟩)
        refine (HF.out _ HK0.out).mono ?_
        rintro e w2 ⟨rfl, hk2⟩
        simp only [optI]
        go_wp2
        go_ret2
        exact ⟨by rw [HR3.out]; rfl, HK0.out.trans hk2⟩
      | some k =>
        rw [hci] at HF HR2
        have hkl : k < a.length := (List.findIdx?_eq_some_iff_getElem.1 hci).1
        have hgd : a.getD k zC = a[k] := by rw [List.getD_eq_getElem?_getD, List.getElem?_eq_getElem hkl]; rfl
        have HRDA := Lib.hid HA.out
        obtain ⟨b4, o4, hAe, _, hb4, hcs⟩ := HA.out.open' (by omega) (by omega)
        subst hAe
        have d1 := hcs (k * 2 + 1) _ (csCells_at a k hkl).2
        rw [← Nat.add_assoc] at d1
        have HD1 := Lib.hid d1
        have hi0 : ((k : Int) < 0) = False := eq_false (by omega)
        have hi1 : (0 : Int) ≤ (k : Int) := by omega
        have hi2 : (k : Int) < (a.length : Int) := by omega
        have hR3 : R = if KR ≠ a[k].kind then .error 13 else .ok (List.replicate (if code = 9 then 2 else 1) a) := by rw [← hgd]; exact HR2.out
        have HR3 := Lib.hid hR3
        clear hR3 HR2 hci hgd hcs
        generalize a[k].kind = kk at *
        clear d1
        have hway : ∃ b, (KR != kk) = b := ⟨_, rfl⟩
        obtain ⟨bb, hbb⟩ := hway
        go_enter Tryz.func64, Tryz.ntmps64
        go_wp2_with (go_at_call 27; refine (HCT'.out _ HK0.out).mono ?_; rintro e w6 ⟨rfl, rfl⟩)
        refine (HF.out _ HK0.out).mono ?_
        rintro e w2 ⟨rfl, hk2⟩
        simp only [optI]
        obtain ⟨bx, hbx⟩ : ∃ bx, w.heap.size = bx := ⟨_, rfl⟩
        have HB2 := Lib.hid (HBX.out.keep hk2 (by simp))
        have HK2 := Lib.hid (HK0.out.trans hk2)
        rw [hbx] at HB2 ⊢
        clear hk2
        have x1 := HK2.out.cell_of HD1.out (by simp)
        have y1 : w2.cell? ⟨bx, 1, none⟩ = some (.int .i64 code) := HB2.out.cell 1
        have y10 : w2.cell? ⟨bx, 10, none⟩ = some (.string (bs rc)) := HB2.out.cell 10
        have y11 : w2.cell? ⟨bx, 11, none⟩ = some (.int .i64 rk) := HB2.out.cell 11
        have y12 : w2.cell? ⟨bx, 12, none⟩ = some (.int .i64 rn) := HB2.out.cell 12
        have y13 : w2.cell? ⟨bx, 13, none⟩ = some (.string (bs rw')) := HB2.out.cell 13
        have hz1 : bx < w2.heap.size := HB2.out.lt
        have hz2 : b4 < w2.heap.size := World.block_lt_of_cell? _ _ x1
        have HKQ := Lib.hid (fun W (q : Keeps [] w2 W) => HKR'.out W (HK2.out.trans q))
        clear hbx
        go_wp2_with fail
        refine wp_region_keeps (by kernel_rfl) (by kernel_rfl) ?_
        repeat (go_big_quiet_step (with_reducible exact KW.of HKQ.out _))
        refine wpQuiet_nil ?_
        intro w3 hk3
        have HK3 := Lib.hid (HK2.out.trans hk3)
        have z1 := hk3.cell_of y1 (by simp)
        clear hk3 y10 y11 y12 y13 y1 x1
        cases bb with
        | true =>
          have HR4 : Hid (R = .error 13) := Lib.hid (by rw [HR3.out, if_pos (by simpa using hbb)])
          go_wp2
          go_ret2
          exact ⟨by rw [HR4.out]; rfl, HK3.out⟩
        | false =>
          have hkk : KR = kk := by simpa using hbb
          have HR4 : Hid (R = .ok (List.replicate (if code = 9 then 2 else 1) a)) := Lib.hid (by rw [HR3.out, if_neg (fun h => h hkk)])
          clear HR3 hkk
          by_cases h9 : code = 9
          · have t9 : (code == 9) = true := by rw [h9]; rfl
            have HR5 : Hid (R = .ok (List.replicate 2 a)) := Lib.hid (by rw [HR4.out, if_pos h9])
            clear HR4 h9
            go_wp2_with fail
            refine (repeat_two _ _ _ _ _ ((Blk.new _ _ _).cell 0)).mono ?_
            rintro e w4 ⟨⟨g, rfl, hg0, hg1⟩, hk4⟩
            have HK4 := Lib.hid ((HK3.out.alloc _).trans hk4)
            have HRO := Lib.hid (heads_rep (n := 2) (HRDA.out.keep HK4.out) hc (fun j hj => by
              rcases j with _ | _ | j
              · exact hg0
              · exact hg1
              · omega))
            go_wp2
            go_ret2
            exact ⟨by rw [HR5.out]; exact ⟨_, 2, rfl, Nat.le_refl _, HRO.out⟩, HK4.out⟩
          · have t9 : (code == 9) = false := by rw [beq_eq_false_iff_ne]; exact h9
            have HR5 : Hid (R = .ok (List.replicate 1 a)) := Lib.hid (by rw [HR4.out, if_neg h9])
            clear HR4 h9
            go_wp2_with fail
            refine (repeat_one _ _ _ _ _ ((Blk.new _ _ _).cell 0)).mono ?_
            rintro e w4 ⟨⟨g, rfl, hg0⟩, hk4⟩
            have HK4 := Lib.hid ((HK3.out.alloc _).trans hk4)
            have HRO := Lib.hid (heads_rep (n := 1) (HRDA.out.keep HK4.out) hc (fun j hj => by
              obtain rfl : j = 0 := by omega
              exact hg0))
            go_wp2
            go_ret2
            exact ⟨by rw [HR5.out]; exact ⟨_, 1, rfl, Nat.le_refl _, HRO.out⟩, HK4.out⟩
  · rw [decide_eq_false hop] at HCT'
    have HR2 : Hid (R = .error 1) := Lib.hid (by rw [HR.out, if_pos (.inl hop)])
    clear HR hop
    go_enter Tryz.func64, Tryz.ntmps64
    go_wp2_with (go_at_call 27; refine (HCT'.out _ HK0.out).mono ?_; rintro e w6 ⟨rfl, rfl⟩)
    go_ret2
    exact ⟨by rw [HR2.out]; rfl, HK0.out⟩
end Go.Proofs.YtomgnjgaafnkiaaGreatDoor
