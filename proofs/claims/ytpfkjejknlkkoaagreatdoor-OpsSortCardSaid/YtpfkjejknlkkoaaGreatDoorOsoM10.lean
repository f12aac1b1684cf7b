/- strings.Builder, at this program: WriteByte. table.Value. table.Value, table.Print. -/
import Derived.Test.YtpfkjejknlkkoaaGreatDoorOsoM3
import Derived.Test.YtpfkjejknlkkoaaGreatDoorOsoM9
import Derived.Test.YtpfkjejknlkkoaaGreatDoorShTab
import Derived.Sort.Grow
import Derived.Lib.ItoaLen
set_option linter.unusedSimpArgs false
set_option linter.unusedVariables false
namespace Go.Proofs.YtpfkjejknlkkoaaGreatDoor
open Go.RowKit
attribute [local go_sem] bs_size bs_extract bs_append bs_toList
set_option maxHeartbeats 1000000 in
set_option maxRecDepth 100000 in
theorem writeByte_any {w : World} {B b : Nat} {l : Bs} (h : Bld w B b l) (c : UInt8) (hlen : l.length ≤ 1000000000) (hBw : B ≤ w.heap.size) :
  Calls Tryz.prog 46 #[.pointer (some ⟨b, 0, none⟩), .int .u8 (c.toNat : Int)] w fun e w' => e = .returned .nilIface ∧ Bld w' B b (l ++ [c]) ∧ Below B w w' ∧ Lib.OthersKept 5 (some b) w w' := by
 obtain ⟨i0, hi, hz0, hz1, hz2⟩ := info_parts bld_info
 have hl := bytes_len l
 have HL := Lib.hid hl
 have HB := Lib.hid (copy_any B b (Lib.byteCells l) w h)
 clear hl h
 go_enter Tryz.func46, Tryz.ntmps46
 go_wp2_with fail
 refine HB.out.mono ?_
 rintro e w1 ⟨rfl, h1, hb1, ko1⟩
 obtain ⟨hB, v, hbk, hown, hne⟩ := h1
 have c1 : w1.cell? ⟨b, 1, none⟩ = some v := by rw [Lib.cell_of_heap hbk]; rfl
 have HBK := Lib.hid hbk
 have HO := Lib.hid hown
 have HB1 := Lib.hid hb1
 have KO1 := Lib.hid ko1
 have HS := Lib.hid (show B ≤ (w1.alloc (.cells #[.int .u8 (c.toNat : Int)] 5)).heap.size by have := hb1.size; simp; omega)
 have HM := Lib.hid (show (Lib.byteCells l).length + 1 ≤ maxLen ∧ ((Lib.byteCells l).length + 1) * 1 ≤ 140737488355328 by rw [HL.out]; simp only [maxLen]; omega)
 clear hbk hown hb1 ko1
 go_wp2_with (at_builtin; refine wpList_append_own _ rfl _ _ 91 rfl B 5 i0 (.int .u8 0) 1 1 Tryz.underlying91 hi hz0 hz1 hz2 rfl (by decide) _ _ _ rfl (HO.out.alloc _) ⟨w1.heap.size, 0, none⟩ 1 1 [.int .u8 (c.toNat : Int)] rfl rfl (World.news_of_block (heap_alloc_new _ _)) (by simp [Value.oneCell']) HM.out.1 HM.out.2 HS.out ?_)
 intro vv w2 hown' hgrow hnn
 obtain ⟨hlt, hb2⟩ := bld_after HBK.out (o := .cells #[.int .u8 (c.toNat : Int)] 5) hgrow hne
 have d1 : w2.cell? ⟨b, 1, none⟩ = some v := by rw [Lib.cell_of_heap hb2]; rfl
 have f1 : w2.frozen? ⟨b, 1, none⟩ = false := Lib.frozen_of_heap hb2 1
 obtain ⟨g, cap, rfl⟩ : ∃ g cap, vv = .slice (some ⟨g, 0, none⟩) ((Lib.byteCells l).length + 1) cap := by
  rcases hown'.2 with ⟨_, h0⟩ | ⟨g, cap, cur, hv, _⟩
  ·omega
  ·exact ⟨g, cap, hv⟩
 have e : Lib.byteCells (l ++ [c]) = Lib.byteCells l ++ [.int .u8 (c.toNat : Int)] := by simp [Lib.byteCells]
 have HO2 := Lib.hid hown'
 have HE := Lib.hid e
 have HG := Lib.hid hgrow
 have HB2 := Lib.hid hb2
 clear hown' e hgrow hb2 hnn
 go_wp2
 go_ret
 refine ⟨rfl, .inr ?_, ?_, ?_⟩
 ·exact Lib.BuilderAt.put (T := 93) (e := 5) hB HB2.out (bs' := Lib.byteCells (l ++ [c])) (by rw [HE.out]; simpa using HO2.out) (by decide)
 ·exact ((HB1.out.alloc (by have := HB1.out.size; omega) _).grown HG.out (by have := HB1.out.size; simp; omega) (fun k hk => (HO.out.lt k hk).1)).setCell (p := ⟨b, 1, none⟩) hB _
 ·exact ((KO1.out.alloc _).grown HG.out (bld_kind (HO.out.alloc _))).setCell ⟨b, 1, none⟩ rfl _
end Go.Proofs.YtpfkjejknlkkoaaGreatDoor
namespace Go.Proofs.YtpfkjejknlkkoaaGreatDoor
open Go.RowKit Go.Sort
attribute [local go_sem] bs_size bs_extract bs_append bs_toList
theorem tabIs_quiet {P : Program} {w w' : World} {nm : String} {k : IntKind} {zs : List Int} (h : Lib.TabIs P w nm k zs) (hk : Keeps [] w w') : Lib.TabIs P w' nm k zs := by
 unfold Lib.TabIs World.var? at *
 cases hg : P.globalNamed nm with
 | none => rw [hg] at h; cases h
 | some g =>
  rw [hg] at h
  simp only [Option.bind_some] at h ⊢
  cases hh : w.heap[g]? with
  | none => rw [hh] at h; cases h
  | some o =>
   have hlt : g < w.heap.size := (Array.getElem?_eq_some_iff.1 hh).1
   rw [hk.block g hlt (by simp)]
   exact h
theorem keeps_grow (w : World) (os : Array Obj) : Keeps [] w (grow w os) :=
 ⟨rfl, rfl, by unfold grow; simp, fun k hk _ => by unfold grow; exact Array.getElem?_append_left hk⟩
theorem value_p10 (v : Vl) (hn : numOk v.num) (hw : v.word.length ≤ 1000000000) (w : World) (hE : Lib.TabIs Tryz.prog w "internal/strconv.uint64pow10" .u64 Lib.pow10Tab) :
  Calls Tryz.prog 48 #[vAgg v] w fun e w' => e = .returned (.string (bs (valueL v))) ∧ Keeps [] w w' := by
 obtain ⟨k, n, s⟩ := v
 simp only at hn hw
 show Calls _ _ #[.agg #[.int .i64 k, .int .i64 n, .string (bs s)]] w _
 have HE := Lib.hid hE
 have HN := Lib.hid hn
 clear hE hn
 by_cases h1 : k = 1
 ·have hb1 : (k == 1) = true := by rw [h1]; rfl
  have HF : Hid (valueL ⟨k, n, s⟩ = Lib.itoa n) := Lib.hid (if_pos h1)
  clear h1
  go_enter Tryz.func48, Tryz.ntmps48
  go_wp2_with fail
  refine (Tryz.strconv_Itoa n HN.out.1 HN.out.2 _ (tabIs_quiet HE.out ((Keeps.refl _ _).alloc _))).mono ?_
  rintro e w' ⟨rfl, k2, os, rfl⟩
  go_wp2
  go_ret
  exact ⟨by rw [HF.out]; rfl, (((Keeps.refl _ _).alloc _).drewN _).trans (keeps_grow _ _)⟩
 ·have hb1 : (k == 1) = false := by rw [beq_eq_false_iff_ne]; exact h1
  have HF : Hid (valueL ⟨k, n, s⟩ = [39] ++ s ++ [39]) := Lib.hid (if_neg h1)
  clear h1
  go_enter Tryz.func48, Tryz.ntmps48
  go_wp2
  go_ret
  exact ⟨by rw [HF.out, ← bs_append, ← bs_append]; rfl, (Keeps.refl _ _).alloc _⟩
end Go.Proofs.YtpfkjejknlkkoaaGreatDoor
namespace Go.Proofs.YtpfkjejknlkkoaaGreatDoor
open Go.RowKit Go.Sort
attribute [local go_sem] bs_size bs_extract bs_append bs_toList
structure TEnv (w : World) : Prop where
 p10 : Lib.TabIs Tryz.prog w "internal/strconv.uint64pow10" .u64 Lib.pow10Tab
 kinds : ∀ j, j < 3 → w.cell? ⟨0, j, none⟩ = some (.string (bs (kindW j)))
 mlen : ∃ m, w.cell? ⟨2, 0, none⟩ = some (.int .i64 m)
 esyn : ∃ t p, w.cell? ⟨3, 0, none⟩ = some (.iface t p)
 erng : ∃ t p, w.cell? ⟨4, 0, none⟩ = some (.iface t p)
theorem TEnv.quiet {w w' : World} (h : TEnv w) (hk : Keeps [] w w') : TEnv w' :=
  ⟨tabIs_quiet h.p10 hk, fun j hj => hk.cell_of (h.kinds j hj) (by simp), by obtain ⟨m, hm⟩ := h.mlen; exact ⟨m, hk.cell_of hm (by simp)⟩,
   by obtain ⟨t, p, hm⟩ := h.esyn; exact ⟨t, p, hk.cell_of hm (by simp)⟩, by obtain ⟨t, p, hm⟩ := h.erng; exact ⟨t, p, hk.cell_of hm (by simp)⟩⟩
theorem value_any (v : Vl) (hn : numOk v.num) (hw : v.word.length ≤ 1000000000) (w : World) (hE : TEnv w) :
  Calls Tryz.prog 48 #[vAgg v] w fun e w' => e = .returned (.string (bs (valueL v))) ∧ Keeps [] w w' := value_p10 v hn hw w hE.p10
theorem kindW_len (j : Nat) : (kindW j).length ≤ 4 := by unfold kindW; split <;> simp
theorem nameB_len {s : Bs} (h : nameB s = true) : s.length ≤ 10 := by
 unfold nameB at h
 simp only [Bool.and_eq_true, decide_eq_true_eq] at h
 exact h.1.1.2
theorem okCol_of {l : List Cl} (h : colsB l = true) {n : Nat} (hn : n < l.length) : nameB l[n].name = true ∧ (l[n].kind = 1 ∨ l[n].kind = 2) := by
 unfold colsB at h
 simp only [Bool.and_eq_true, List.all_eq_true] at h
 have := h.2 n (List.mem_range.2 hn)
 unfold okCol at this
 rw [List.getElem?_eq_getElem hn] at this
 simp only [Bool.and_eq_true, Bool.or_eq_true, decide_eq_true_eq] at this
 exact this.1
theorem colsT_succ (l : List Cl) (k : Nat) (h : k < l.length) : colsT l (k + 1) = colsT l k ++ (if k = 0 then [] else [32]) ++ (l[k].name ++ [58] ++ kindW l[k].kind.toNat) := by
 conv => lhs; unfold colsT
 rw [List.getElem?_eq_getElem h]
theorem rowT_succ (r : List Vl) (k : Nat) (h : k < r.length) : rowT r (k + 1) = rowT r k ++ (if k = 0 then [] else [32]) ++ valueL r[k] := by
 conv => lhs; unfold rowT
 rw [List.getElem?_eq_getElem h]
theorem rowsT_succ (rs : List (List Vl)) (k : Nat) (h : k < rs.length) : rowsT rs (k + 1) = rowsT rs k ++ (rowT rs[k] rs[k].length ++ [10]) := by
 conv => lhs; unfold rowsT
 rw [List.getElem?_eq_getElem h]
theorem colsT_len {l : List Cl} (h : colsB l = true) : ∀ k, k ≤ l.length → (colsT l k).length ≤ 16 * k
 | 0, _ => Nat.zero_le _
 | k + 1, hk => by
  have ih := colsT_len h k (by omega)
  have h1 := nameB_len (okCol_of h (n := k) (by omega)).1
  have h2 := kindW_len (l[k]'(by omega)).kind.toNat
  rw [colsT_succ l k (by omega)]
  simp only [List.length_append, List.length_cons, List.length_nil]
  have h3 : (if k = 0 then ([] : Bs) else [32]).length ≤ 1 := by split <;> simp
  omega
theorem rv_len {v : Vl} (h : rvB v = true) : (valueL v).length ≤ 21 ∧ numOk v.num ∧ v.word.length ≤ 16 := by
 unfold rvB at h
 unfold valueL numOk
 by_cases h1 : v.kind = 1
 ·rw [if_pos h1] at h ⊢
  simp only [Bool.and_eq_true, decide_eq_true_eq, beq_iff_eq] at h
  have := Lib.itoa_length_le v.num (by omega) (by omega)
  exact ⟨this, ⟨by omega, by omega⟩, by rw [h.1.1]; simp⟩
 ·rw [if_neg h1] at h ⊢
  by_cases h2 : v.kind = 2
  ·rw [if_pos h2] at h
   simp only [Bool.and_eq_true, decide_eq_true_eq] at h
   refine ⟨?_, ⟨by omega, by omega⟩, h.1.2⟩
   simp; omega
  ·rw [if_neg h2] at h; cases h
theorem rowB_of {cs : List Cl} {r : List Vl} (h : rowB cs r = true) : r.length = cs.length ∧ ∀ i (hi : i < r.length), rvB r[i] = true := by
 unfold rowB at h
 simp only [Bool.and_eq_true, decide_eq_true_eq, List.all_eq_true] at h
 refine ⟨h.1, fun i hi => ?_⟩
 have := h.2 i (List.mem_range.2 hi)
 unfold okAt at this
 rw [List.getElem?_eq_getElem hi, List.getElem?_eq_getElem (by omega)] at this
 simp only [Bool.and_eq_true] at this
 exact this.2
theorem rowT_len {cs : List Cl} {r : List Vl} (h : rowB cs r = true) : ∀ k, k ≤ r.length → (rowT r k).length ≤ 22 * k
 | 0, _ => Nat.zero_le _
 | k + 1, hk => by
  have ih := rowT_len h k (by omega)
  have h1 := (rv_len ((rowB_of h).2 k (by omega))).1
  rw [rowT_succ r k (by omega)]
  simp only [List.length_append]
  have h3 : (if k = 0 then ([] : Bs) else [32]).length ≤ 1 := by split <;> simp
  omega
theorem rightB_of {t : Tb} (h : rightB t = true) : colsB t.cols = true ∧ t.cols.length ≤ 6 ∧ t.rows.length ≤ 60 ∧ ∀ r ∈ t.rows, rowB t.cols r = true := by
 unfold rightB at h
 simp only [Bool.and_eq_true, decide_eq_true_eq, List.all_eq_true] at h
 have hc := h.1.1
 unfold colsB at hc
 simp only [Bool.and_eq_true, decide_eq_true_eq] at hc
 exact ⟨h.1.1, hc.1.2, h.1.2, h.2⟩
theorem rowsT_len {t : Tb} (h : rightB t = true) : ∀ k, k ≤ t.rows.length → (rowsT t.rows k).length ≤ 140 * k
 | 0, _ => Nat.zero_le _
 | k + 1, hk => by
  obtain ⟨h1, h2, h3, h4⟩ := rightB_of h
  have ih := rowsT_len h k (by omega)
  have hr := h4 _ (List.getElem_mem (show k < t.rows.length by omega))
  have h5 := rowT_len hr _ (Nat.le_refl _)
  have h6 := (rowB_of hr).1
  rw [rowsT_succ t.rows k (by omega)]
  simp only [List.length_append, List.length_cons, List.length_nil]
  omega
end Go.Proofs.YtpfkjejknlkkoaaGreatDoor
