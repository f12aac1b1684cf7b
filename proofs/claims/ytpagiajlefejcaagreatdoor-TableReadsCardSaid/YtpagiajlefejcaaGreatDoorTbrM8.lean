/- table.Value, table.Print. The reference's RightValue, Less, ValueText. The reference's headText, RowText, TableText. -/
import Derived.Test.YtpagiajlefejcaaGreatDoorTbrM3
import Derived.Test.YtpagiajlefejcaaGreatDoorTbrM7
import Derived.Sort.Grow
import Derived.Lib.ItoaLen
import Derived.Test.YtpagiajlefejcaaGreatDoorTbrM6
import Derived.BigQuiet
set_option linter.unusedSimpArgs false
set_option linter.unusedVariables false
namespace Go.Proofs.YtpagiajlefejcaaGreatDoor
open Go.RowKit Go.Sort
attribute [local go_sem] bs_size bs_extract bs_append bs_toList
structure TEnv (w : World) : Prop where
 p10 : Lib.TabIs Tryz.prog w "internal/strconv.uint64pow10" .u64 Lib.pow10Tab
 kinds : ∀ j, j < 3 → w.cell? ⟨1, j, none⟩ = some (.string (bs (kindW j)))
 mlen : ∃ m, w.cell? ⟨5, 0, none⟩ = some (.int .i64 m)
 esyn : ∃ t p, w.cell? ⟨6, 0, none⟩ = some (.iface t p)
 erng : ∃ t p, w.cell? ⟨7, 0, none⟩ = some (.iface t p)
theorem TEnv.quiet {w w' : World} (h : TEnv w) (hk : Keeps [] w w') : TEnv w' :=
  ⟨tabIs_quiet h.p10 hk, fun j hj => hk.cell_of (h.kinds j hj) (by simp), by obtain ⟨m, hm⟩ := h.mlen; exact ⟨m, hk.cell_of hm (by simp)⟩,
   by obtain ⟨t, p, hm⟩ := h.esyn; exact ⟨t, p, hk.cell_of hm (by simp)⟩, by obtain ⟨t, p, hm⟩ := h.erng; exact ⟨t, p, hk.cell_of hm (by simp)⟩⟩
theorem value_any (v : Vl) (hn : numOk v.num) (hw : v.word.length ≤ 1000000000) (w : World) (hE : TEnv w) :
  Calls Tryz.prog 18 #[vAgg v] w fun e w' => e = .returned (.string (bs (valueL v))) ∧ Keeps [] w w' := value_p10 v hn hw w hE.p10
theorem kindW_len (j : Nat) : (kindW j).length ≤ 4 := by unfold kindW; split <;> simp
theorem nameB_len {s : Bs} (h : nameB s = true) : s.length ≤ 10 := by
 unfold nameB at h
 simp only [Bool.and_eq_true, decide_eq_true_eq] at h
 exact h.1.1.2
theorem okCol_of {l : List Cl} (h : colsB l = true) {n : Nat} (hn : n < l.length) : nameB l[n].name = true ∧ (l[n].kind = 1 ∨ l[n].kind = 2) := by
 unfold colsB at h
 simp only [Bool.and_eq_true, List.all_eq_true] at h
 have := h.2 n (List.mem_range.2 hn)
 unfold okCol at this
 rw [List.getElem?_eq_getElem hn] at this
 simp only [Bool.and_eq_true, Bool.or_eq_true, decide_eq_true_eq] at this
 exact this.1
theorem colsT_succ (l : List Cl) (k : Nat) (h : k < l.length) : colsT l (k + 1) = colsT l k ++ (if k = 0 then [] else [32]) ++ (l[k].name ++ [58] ++ kindW l[k].kind.toNat) := by
 conv => lhs; unfold colsT
 rw [List.getElem?_eq_getElem h]
theorem rowT_succ (r : List Vl) (k : Nat) (h : k < r.length) : rowT r (k + 1) = rowT r k ++ (if k = 0 then [] else [32]) ++ valueL r[k] := by
 conv => lhs; unfold rowT
 rw [List.getElem?_eq_getElem h]
theorem rowsT_succ (rs : List (List Vl)) (k : Nat) (h : k < rs.length) : rowsT rs (k + 1) = rowsT rs k ++ (rowT rs[k] rs[k].length ++ [10]) := by
 conv => lhs; unfold rowsT
 rw [List.getElem?_eq_getElem h]
theorem colsT_len {l : List Cl} (h : colsB l = true) : ∀ k, k ≤ l.length → (colsT l k).length ≤ 16 * k
 | 0, _ => Nat.zero_le _
 | k + 1, hk => by
  have ih := colsT_len h k (by omega)
  have h1 := nameB_len (okCol_of h (n := k) (by omega)).1
  have h2 := kindW_len (l[k]'(by omega)).kind.toNat
  rw [colsT_succ l k (by omega)]
  simp only [List.length_append, List.length_cons, List.length_nil]
  have h3 : (if k = 0 then ([] : Bs) else [32]).length ≤ 1 := by split <;> simp
  omega
theorem rv_len {v : Vl} (h : rvB v = true) : (valueL v).length ≤ 21 ∧ numOk v.num ∧ v.word.length ≤ 16 := by
 unfold rvB at h
 unfold valueL numOk
 by_cases h1 : v.kind = 1
 ·rw [if_pos h1] at h ⊢
  simp only [Bool.and_eq_true, decide_eq_true_eq, beq_iff_eq] at h
  have := Lib.itoa_length_le v.num (by omega) (by omega)
  exact ⟨this, ⟨by omega, by omega⟩, by rw [h.1.1]; simp⟩
 ·rw [if_neg h1] at h ⊢
  by_cases h2 : v.kind = 2
  ·rw [if_pos h2] at h
   simp only [Bool.and_eq_true, decide_eq_true_eq] at h
   refine ⟨?_, ⟨by omega, by omega⟩, h.1.2⟩
   simp; omega
  ·rw [if_neg h2] at h; cases h
theorem rowB_of {cs : List Cl} {r : List Vl} (h : rowB cs r = true) : r.length = cs.length ∧ ∀ i (hi : i < r.length), rvB r[i] = true := by
 unfold rowB at h
 simp only [Bool.and_eq_true, decide_eq_true_eq, List.all_eq_true] at h
 refine ⟨h.1, fun i hi => ?_⟩
 have := h.2 i (List.mem_range.2 hi)
 unfold okAt at this
 rw [List.getElem?_eq_getElem hi, List.getElem?_eq_getElem (by omega)] at this
 simp only [Bool.and_eq_true] at this
 exact this.2
theorem rowT_len {cs : List Cl} {r : List Vl} (h : rowB cs r = true) : ∀ k, k ≤ r.length → (rowT r k).length ≤ 22 * k
 | 0, _ => Nat.zero_le _
 | k + 1, hk => by
  have ih := rowT_len h k (by omega)
  have h1 := (rv_len ((rowB_of h).2 k (by omega))).1
  rw [rowT_succ r k (by omega)]
  simp only [List.length_append]
  have h3 : (if k = 0 then ([] : Bs) else [32]).length ≤ 1 := by split <;> simp
  omega
theorem rightB_of {t : Tb} (h : rightB t = true) : colsB t.cols = true ∧ t.cols.length ≤ 6 ∧ t.rows.length ≤ 60 ∧ ∀ r ∈ t.rows, rowB t.cols r = true := by
 unfold rightB at h
 simp only [Bool.and_eq_true, decide_eq_true_eq, List.all_eq_true] at h
 have hc := h.1.1
 unfold colsB at hc
 simp only [Bool.and_eq_true, decide_eq_true_eq] at hc
 exact ⟨h.1.1, hc.1.2, h.1.2, h.2⟩
theorem rowsT_len {t : Tb} (h : rightB t = true) : ∀ k, k ≤ t.rows.length → (rowsT t.rows k).length ≤ 140 * k
 | 0, _ => Nat.zero_le _
 | k + 1, hk => by
  obtain ⟨h1, h2, h3, h4⟩ := rightB_of h
  have ih := rowsT_len h k (by omega)
  have hr := h4 _ (List.getElem_mem (show k < t.rows.length by omega))
  have h5 := rowT_len hr _ (Nat.le_refl _)
  have h6 := (rowB_of hr).1
  rw [rowsT_succ t.rows k (by omega)]
  simp only [List.length_append, List.length_cons, List.length_nil]
  omega
end Go.Proofs.YtpagiajlefejcaaGreatDoor
namespace Go.Proofs.YtpagiajlefejcaaGreatDoor
open Go.RowKit Go.Sort
attribute [local go_sem] bs_size bs_extract bs_append bs_toList
theorem rValue_any (v : Vl) (hk : v.kind = 1 ∨ v.kind = 2) (hn : numOk v.num) (hw : v.word.length ≤ 1000000000) (w : World) (hE : TEnv w) :
  Calls Tryz.prog 19 #[vAgg v] w fun e w' => e = .returned (.string (bs (valueL v))) ∧ Keeps [] w w' := by
 obtain ⟨k, n, s⟩ := v
 simp only at hn hw hk
 show Calls _ _ #[.agg #[.int .i64 k, .int .i64 n, .string (bs s)]] w _
 have HE := Lib.hid hE
 have HN := Lib.hid hn
 clear hE hn
 rcases hk with rfl | rfl
 ·have hb1 : ((1 : Int) == 2) = false := rfl
  have HF : Hid (valueL ⟨1, n, s⟩ = Lib.itoa n) := Lib.hid (if_pos rfl)
  go_enter Tryz.func19, Tryz.ntmps19
  go_wp2_with fail
  refine (Tryz.strconv_Itoa n HN.out.1 HN.out.2 _ (HE.out.quiet ((Keeps.refl _ _).alloc _)).p10).mono ?_
  rintro e w' ⟨rfl, k2, os, rfl⟩
  go_wp2
  go_ret
  exact ⟨by rw [HF.out]; rfl, (((Keeps.refl _ _).alloc _).drewN _).trans (keeps_grow _ _)⟩
 ·have hb1 : ((2 : Int) == 2) = true := rfl
  have HF : Hid (valueL ⟨2, n, s⟩ = [39] ++ s ++ [39]) := Lib.hid (if_neg (show ¬ ((2 : Int) = 1) by decide))
  go_enter Tryz.func19, Tryz.ntmps19
  go_wp2
  go_ret
  exact ⟨by rw [HF.out, ← bs_append, ← bs_append]; rfl, (Keeps.refl _ _).alloc _⟩
end Go.Proofs.YtpagiajlefejcaaGreatDoor
namespace Go.Proofs.YtpagiajlefejcaaGreatDoor
open Go.RowKit Go.BigFrame
theorem bs_rt0 (a : Bs) : bs a ++ ⟨#[32]⟩ = bs (a ++ [32]) := bs_append a [32]
theorem bs_rt1 (a : Bs) : bs a ++ ⟨#[58]⟩ = bs (a ++ [58]) := bs_append a [58]
theorem bs_rt2 (a : Bs) : bs a ++ ⟨#[105, 110, 116]⟩ = bs (a ++ [105, 110, 116]) := bs_append a [105, 110, 116]
theorem bs_rt3 (a : Bs) : bs a ++ ⟨#[116, 101, 120, 116]⟩ = bs (a ++ [116, 101, 120, 116]) := bs_append a [116, 101, 120, 116]
theorem bs_rt4 (a : Bs) : bs a ++ ⟨#[10]⟩ = bs (a ++ [10]) := bs_append a [10]
attribute [local go_sem] bs_size bs_extract bs_append bs_toList bs_rt0 bs_rt1 bs_rt2 bs_rt3 bs_rt4 KW.cell
theorem colsT_step {l : List Cl} {n : Nat} (h : n < l.length) : colsT l (n + 1) = (if n = 0 then colsT l n else colsT l n ++ [32]) ++ (l[n].name ++ [58] ++ kindW l[n].kind.toNat) := by
 show colsT l n ++ _ ++ _ = _
 rw [List.getElem?_eq_getElem h]
 by_cases h0 : n = 0
 ·rw [if_pos h0, if_pos h0]; simp
 ·rw [if_neg h0, if_neg h0]
theorem rowT_step {l : List Vl} {n : Nat} (h : n < l.length) : rowT l (n + 1) = (if n = 0 then rowT l n else rowT l n ++ [32]) ++ valueL l[n] := by
 show rowT l n ++ _ ++ _ = _
 rw [List.getElem?_eq_getElem h]
 by_cases h0 : n = 0
 ·rw [if_pos h0, if_pos h0]; simp
 ·rw [if_neg h0, if_neg h0]
theorem rowsT_step {l : List (List Vl)} {n : Nat} (h : n < l.length) : rowsT l (n + 1) = rowsT l n ++ (rowT l[n] l[n].length ++ [10]) := by
 show rowsT l n ++ _ = _
 rw [List.getElem?_eq_getElem h]
theorem rcolsT_len' (M : Nat) {l : List Cl} (h : ∀ x ∈ l, x.name.length ≤ M) : ∀ n, (colsT l n).length ≤ n * (M + 10)
 | 0 => by simp [colsT]
 | n + 1 => by
  have ih := rcolsT_len' M h n
  rw [Nat.succ_mul]
  generalize n * (M + 10) = q at *
  by_cases hn : n < l.length
  ·rw [colsT_step hn]
   have h1 := h _ (List.getElem_mem hn)
   have h2 : ∀ j, (kindW j).length ≤ 4 := fun j => by unfold kindW; split <;> decide
   have h3 := h2 l[n].kind.toNat
   split <;> simp only [List.length_append, List.length_cons, List.length_nil] <;> omega
  ·show (colsT l n ++ _ ++ _).length ≤ _
   rw [List.getElem?_eq_none (by omega)]
   split <;> simp only [List.length_append, List.length_cons, List.length_nil] <;> omega
theorem rcolsT_len {l : List Cl} (h : ∀ x ∈ l, x.name.length ≤ 1000000) (n : Nat) : (colsT l n).length ≤ n * 1000010 := rcolsT_len' 1000000 h n
theorem rvalueL_len (M : Nat) (v : Vl) (hn : numOk v.num) (h : v.word.length ≤ M) : (valueL v).length ≤ M + 30 := by
 unfold valueL
 split
 ·have := Lib.itoa_length_le v.num hn.1 hn.2
  omega
 ·simp only [List.length_append, List.length_cons, List.length_nil]; omega
theorem rrowT_len' (M : Nat) {l : List Vl} (h : ∀ x ∈ l, numOk x.num ∧ x.word.length ≤ M) : ∀ n, (rowT l n).length ≤ n * (M + 40)
 | 0 => by simp [rowT]
 | n + 1 => by
  have ih := rrowT_len' M h n
  rw [Nat.succ_mul]
  generalize n * (M + 40) = q at *
  by_cases hn : n < l.length
  ·rw [rowT_step hn]
   have h1 := h _ (List.getElem_mem hn)
   have h2 := rvalueL_len M _ h1.1 h1.2
   split <;> simp only [List.length_append, List.length_cons, List.length_nil] <;> omega
  ·show (rowT l n ++ _ ++ _).length ≤ _
   rw [List.getElem?_eq_none (by omega)]
   split <;> simp only [List.length_append, List.length_cons, List.length_nil] <;> omega
theorem rrowT_len {l : List Vl} (h : ∀ x ∈ l, numOk x.num ∧ x.word.length ≤ 1000000) (n : Nat) : (rowT l n).length ≤ n * 1000040 := rrowT_len' 1000000 h n
theorem rrowsT_len (M : Nat) {l : List (List Vl)} (h : ∀ r ∈ l, (rowT r r.length).length ≤ M) : ∀ n, (rowsT l n).length ≤ n * (M + 1)
 | 0 => by simp [rowsT]
 | n + 1 => by
  have ih := rrowsT_len M h n
  rw [Nat.succ_mul]
  generalize n * (M + 1) = q at *
  by_cases hn : n < l.length
  ·rw [rowsT_step hn]
   have h1 := h _ (List.getElem_mem hn)
   simp only [List.length_append, List.length_cons, List.length_nil]; omega
  ·show (rowsT l n ++ _).length ≤ _
   rw [List.getElem?_eq_none (by omega)]
   simp only [List.length_append, List.length_nil]; omega
theorem kind3 (kd : Int) (h : kd = 1 ∨ kd = 2) : ∃ kw : Bs, kindW kd.toNat = kw ∧ kw.length ≤ 4 ∧ ∀ W, (Instr.index 130 (.agg #[.string ⟨#[]⟩, .string ⟨#[105, 110, 116]⟩, .string ⟨#[116, 101, 120, 116]⟩]) (.int .i64 kd)).run Tryz.prog W = .ok (.string (bs kw)) W := by
 rcases h with rfl | rfl
 ·exact ⟨[105, 110, 116], rfl, by decide, fun W => by kernel_rfl⟩
 ·exact ⟨[116, 101, 120, 116], rfl, by decide, fun W => by kernel_rfl⟩
set_option maxRecDepth 100000 in
set_option maxHeartbeats 8000000 in
theorem headText_any (l : List Cl) (A : Option Addr) (c : Nat) (w : World) (hR : Rd w [] 2 A l.length (csCells l)) (hk : ∀ x ∈ l, x.kind = 1 ∨ x.kind = 2) (hnl : ∀ x ∈ l, x.name.length ≤ 1000000) (hl : l.length ≤ 1000) :
  Calls Tryz.prog 58 #[.slice A l.length c] w fun e w' => e = .returned (.string (bs (colsT l l.length))) ∧ Keeps [] w w' := by
 have HR := Lib.hid hR
 have HKD := Lib.hid hk
 have HNL := Lib.hid hnl
 clear hR hk hnl
 go_enter Tryz.func58, Tryz.ntmps58
 go_wp2
 go_loopw [3, 8] (fun sv i wr => ∃ n : Nat, n ≤ l.length ∧ i = .int .i64 n ∧ sv = .string (bs (colsT l n)) ∧ Hid (Keeps [] w wr)) (fun _ i _ => l.length - (intOf i).toNat)
 case atStart => exact ⟨0, Nat.zero_le _, rfl, rfl, Lib.hid (Keeps.refl _ _)⟩
 case round =>
  obtain ⟨n, hn, rfl, rfl, hk⟩ := hrel
  obtain ⟨z, rfl⟩ : ∃ z : World, z = wr := ⟨_, rfl⟩
  by_cases hlt : n < l.length
  ·have hli : (n : Int) < (l.length : Int) := by omega
   obtain ⟨g, o, rfl, _, hg, hcs⟩ := (HR.out.keep hk.out).open' (by omega) (by omega)
   have d1 := hcs (n * 2) _ (csCells_at l n hlt).1
   have d2 := hcs (n * 2 + 1) _ (csCells_at l n hlt).2
   rw [← Nat.add_assoc] at d2
   have hkd := HKD.out _ (List.getElem_mem hlt)
   have hst := colsT_step hlt
   have hul := rcolsT_len HNL.out n
   have hnx := HNL.out _ (List.getElem_mem hlt)
   generalize l[n] = x at *
   obtain ⟨nm, kd⟩ := x
   simp only at d1 d2 hkd hst hnx
   obtain ⟨kw, hkw, hkl, hix⟩ := kind3 kd hkd
   rw [hkw] at hst
   have hq0 : ¬ 9223372036854775807 < nm.length + 1 := by omega
   have hal := (Keeps.refl [] z).alloc (.cells #[.string (bs nm), .int .i64 kd] 109)
   have hbx := Blk.new z 109 #[.string (bs nm), .int .i64 kd]
   obtain ⟨u, hu⟩ : ∃ u, colsT l n = u := ⟨_, rfl⟩
   obtain ⟨v, hv⟩ : ∃ v, colsT l (n + 1) = v := ⟨_, rfl⟩
   rw [hu, hv] at hst
   rw [hu] at hul
   replace hul : u.length ≤ 1000 * 1000010 := Nat.le_trans hul (Nat.mul_le_mul_right _ (by omega))
   rw [hu]
   have HU := Lib.hid hv
   have HK4 := Lib.hid (hk.out.trans hal)
   have HFIN : Hid (∀ (s : Bs), s = v → (.string (bs s) : Value) = .string (bs (colsT l (n + 1)))) := Lib.hid (fun s h => by rw [h, HU.out])
   clear hcs hal hu hv hk
   by_cases h0 : n = 0
   ·have hi0 : ¬ (0 : Int) < (n : Int) := by omega
    rw [if_pos h0] at hst
    have HST := Lib.hid hst
    clear hst h0
    go_wp2_with fail
    go_quiet (fail)
    go_wp2
    go_roundw
    case rel => exact ⟨n + 1, by omega, by go_num, HFIN.out _ (by first | exact HST.out.symm | (rw [HST.out]; simp)), Lib.hid (by first | exact HK4.out.drewN _ | exact HK4.out.drew)⟩
    case measure => simp [intOf]; omega
   ·have hi0 : (0 : Int) < (n : Int) := by omega
    rw [if_neg h0] at hst
    have HST := Lib.hid hst
    clear hst h0
    go_wp2_with fail
    go_quiet (fail)
    go_wp2
    go_roundw
    case rel => exact ⟨n + 1, by omega, by go_num, HFIN.out _ (by first | exact HST.out.symm | (rw [HST.out]; simp)), Lib.hid (by first | exact HK4.out.drewN _ | exact HK4.out.drew)⟩
    case measure => simp [intOf]; omega
  ·have hli : ¬ (n : Int) < (l.length : Int) := by omega
   obtain rfl : n = l.length := by omega
   go_wp2
   go_ret
   exact ⟨rfl, hk.out⟩
def OkV (v : Vl) : Prop := (v.kind = 1 ∨ v.kind = 2) ∧ numOk v.num ∧ v.word.length ≤ 1000000
set_option maxRecDepth 100000 in
set_option maxHeartbeats 8000000 in
theorem rRowText_any (l : List Vl) (A : Option Addr) (c : Nat) (w : World) (hR : Rd w [] 3 A l.length (vsCells l)) (hk : ∀ x ∈ l, OkV x) (hl : l.length ≤ 1000) (hE : TEnv w) :
  Calls Tryz.prog 59 #[.slice A l.length c] w fun e w' => e = .returned (.string (bs (rowT l l.length))) ∧ Keeps [] w w' := by
 have HR := Lib.hid hR
 have HKD := Lib.hid hk
 have HE := Lib.hid hE
 clear hR hk hE
 go_enter Tryz.func59, Tryz.ntmps59
 go_wp2
 go_loopw [3, 8] (fun sv i wr => ∃ n : Nat, n ≤ l.length ∧ i = .int .i64 n ∧ sv = .string (bs (rowT l n)) ∧ Hid (Keeps [] w wr)) (fun _ i _ => l.length - (intOf i).toNat)
 case atStart => exact ⟨0, Nat.zero_le _, rfl, rfl, Lib.hid (Keeps.refl _ _)⟩
 case round =>
  obtain ⟨n, hn, rfl, rfl, hk⟩ := hrel
  obtain ⟨z, rfl⟩ : ∃ z : World, z = wr := ⟨_, rfl⟩
  by_cases hlt : n < l.length
  ·have hli : (n : Int) < (l.length : Int) := by omega
   obtain ⟨g, o, rfl, _, hg, hcs⟩ := (HR.out.keep hk.out).open' (by omega) (by omega)
   have d1 := hcs (n * 3) _ (vsCells_at l n hlt).1
   have d2 := hcs (n * 3 + 1) _ (vsCells_at l n hlt).2.1
   have d3 := hcs (n * 3 + 2) _ (vsCells_at l n hlt).2.2
   rw [← Nat.add_assoc] at d2 d3
   have hkd := HKD.out _ (List.getElem_mem hlt)
   have hst := rowT_step hlt
   have hul := rrowT_len (fun x hx => (HKD.out x hx).2) n
   generalize l[n] = x at *
   have hal := (Keeps.refl [] z).alloc (.cells #[.int .i64 x.kind, .int .i64 x.num, .string (bs x.word)] 27)
   have hvl := rvalueL_len 1000000 x hkd.2.1 hkd.2.2
   have HV := Lib.hid (rValue_any x hkd.1 hkd.2.1 (Nat.le_trans hkd.2.2 (by decide)) _ (HE.out.quiet (hk.out.trans hal)))
   obtain ⟨u, hu⟩ : ∃ u, rowT l n = u := ⟨_, rfl⟩
   obtain ⟨v, hv⟩ : ∃ v, rowT l (n + 1) = v := ⟨_, rfl⟩
   rw [hu, hv] at hst
   rw [hu] at hul
   replace hul : u.length ≤ 1000 * 1000040 := Nat.le_trans hul (Nat.mul_le_mul_right _ (by omega))
   rw [hu]
   have HU := Lib.hid hv
   have HK4 := Lib.hid (hk.out.trans hal)
   have HFIN : Hid (∀ (s : Bs), s = v → (.string (bs s) : Value) = .string (bs (rowT l (n + 1)))) := Lib.hid (fun s h => by rw [h, HU.out])
   clear hcs hal hu hv hk hkd
   by_cases h0 : n = 0
   ·have hi0 : ¬ (0 : Int) < (n : Int) := by omega
    rw [if_pos h0] at hst
    have HST := Lib.hid hst
    clear hst h0
    go_wp2_with fail
    refine HV.out.mono ?_
    rintro e w7 ⟨rfl, k7⟩
    have HKX := Lib.hid (HK4.out.trans k7)
    clear k7
    go_wp2
    go_roundw
    case rel => exact ⟨n + 1, by omega, by go_num, HFIN.out _ (by first | exact HST.out.symm | (rw [HST.out]; simp)), HKX⟩
    case measure => simp [intOf]; omega
   ·have hi0 : (0 : Int) < (n : Int) := by omega
    rw [if_neg h0] at hst
    have HST := Lib.hid hst
    clear hst h0
    go_wp2_with fail
    refine HV.out.mono ?_
    rintro e w7 ⟨rfl, k7⟩
    have HKX := Lib.hid (HK4.out.trans k7)
    clear k7
    go_wp2
    go_roundw
    case rel => exact ⟨n + 1, by omega, by go_num, HFIN.out _ (by first | exact HST.out.symm | (rw [HST.out]; simp)), HKX⟩
    case measure => simp [intOf]; omega
  ·have hli : ¬ (n : Int) < (l.length : Int) := by omega
   obtain rfl : n = l.length := by omega
   go_wp2
   go_ret
   exact ⟨rfl, hk.out⟩
theorem okV_of {v : Vl} (h : rvB v = true) : OkV v := by
 by_cases hk : v.kind = 1
 ·obtain ⟨h1, h2, h3⟩ := rvB_int h hk
  exact ⟨.inl hk, ⟨by omega, by omega⟩, by rw [h1]; exact Nat.zero_le _⟩
 ·obtain ⟨h1, h2, h3, _⟩ := rvB_text h hk
  exact ⟨.inr h1, by rw [h2]; exact ⟨by omega, by omega⟩, by omega⟩
def rtRes (t : Tb) : Value := if rightB t = true then .tuple #[.string (bs (printL t)), .int .i64 0] else .tuple #[.string (bs []), .int .i64 1]
set_option maxRecDepth 100000 in
set_option maxHeartbeats 8000000 in
theorem tableText_any (t : Tb) (A B : Option Addr) (c d : Nat) (w : World) (hA : Rd w [] 2 A t.cols.length (csCells t.cols)) (hB : RdRows w [] B t.rows) (hn : ∀ x ∈ t.cols, x.name.length ≤ 1000000) (hl : t.cols.length ≤ 1000) (hm : t.rows.length ≤ 1000000) (hr : ∀ r ∈ t.rows, r.length ≤ 1000000) (hww : ∀ r ∈ t.rows, ∀ v ∈ r, v.word.length ≤ 1000000) (hE : TEnv w) :
  Calls Tryz.prog 20 #[tAgg A t.cols.length c B t.rows.length d] w fun e w' => e = .returned (rtRes t) ∧ Keeps [] w w' := by
 have hal := (Keeps.refl [] w).alloc (.cells #[.slice A t.cols.length c, .slice B t.rows.length d] 25)
 have HRI := Lib.hid (rRight_any t A B c d _ (hA.keep hal) (hB.keep hal) hn (by omega) (by omega) (fun r h => Nat.le_trans (hr r h) (by decide)) hww)
 have hbx := Blk.new w 25 #[.slice A t.cols.length c, .slice B t.rows.length d]
 have HA := Lib.hid hA
 have HB := Lib.hid hB
 have HRR := Lib.hid hr
 have HE := Lib.hid hE
 have HNL := Lib.hid hn
 clear hA hB hn hr hww hE
 show Calls _ _ #[.agg #[.slice A t.cols.length c, .slice B t.rows.length d]] w _
 go_enter Tryz.func20, Tryz.ntmps20
 go_wp2_with fail
 refine HRI.out.mono ?_
 rintro e w2 ⟨rfl, k2⟩
 have HK2 := Lib.hid (hal.trans k2)
 have hb2 := hbx.keep k2 (by simp)
 generalize w.heap.size = X at hb2 ⊢
 have HB2 := Lib.hid hb2
 clear k2 hb2 HRI hbx hal
 obtain ⟨r, hr⟩ : ∃ r, rightB t = r := ⟨_, rfl⟩
 rw [hr]
 have HRT := Lib.hid hr
 clear hr
 cases r with
 | false =>
  go_wp2
  go_ret2
  exact ⟨by unfold rtRes; rw [if_neg (by rw [HRT.out]; decide)]; rfl, HK2.out⟩
 | true =>
  have q0 : w2.cell? ⟨X, 0, none⟩ = some (.slice A t.cols.length c) := HB2.out.cell 0
  have hcb : colsB t.cols = true ∧ t.rows.all (rowB t.cols) = true := by
   have h := HRT.out
   unfold rightB at h
   rw [Bool.and_eq_true, Bool.and_eq_true] at h
   exact ⟨h.1.1, h.2⟩
  have HH := Lib.hid (headText_any t.cols A c w2 (HA.out.keep HK2.out) (fun x hx => (colsB_col hcb.1 x hx).2) HNL.out hl)
  have hhl := Nat.le_trans (rcolsT_len HNL.out t.cols.length) (Nat.mul_le_mul_right 1000010 hl)
  have hrb : ∀ r ∈ t.rows, rowB t.cols r = true := fun r h => List.all_eq_true.1 hcb.2 r h
  have hcl := (colsB_ne hcb.1).2
  have h60 : t.rows.length ≤ 60 := by
   have h := HRT.out
   unfold rightB at h
   rw [Bool.and_eq_true, Bool.and_eq_true] at h
   exact of_decide_eq_true h.1.2
  have HRW : Hid (∀ r ∈ t.rows, r.length ≤ 6 ∧ ∀ v ∈ r, OkV v) := Lib.hid (fun r h => by
   have h1 := rowB_iff.1 (hrb r h)
   refine ⟨?_, fun v hv => okV_of (h1.2 v hv)⟩
   have h2 := hrb r h
   unfold rowB at h2
   rw [Bool.and_eq_true] at h2
   have := of_decide_eq_true h2.1
   omega)
  clear hcb
  go_wp2_with fail
  refine HH.out.mono ?_
  rintro e w3 ⟨rfl, k3⟩
  have HK3 := Lib.hid (HK2.out.trans k3)
  have HB3 := Lib.hid (HB2.out.keep k3 (by simp))
  have q1 : w3.cell? ⟨X, 1, none⟩ = some (.slice B t.rows.length d) := HB3.out.cell 1
  clear k3 q0 HH HB2 HK2
  have hR6 : ∀ r ∈ t.rows, (rowT r r.length).length ≤ 7000000 := fun r h => Nat.le_trans (rrowT_len (fun x hx => ((HRW.out r h).2 x hx).2) r.length) (Nat.le_trans (Nat.mul_le_mul_right _ (HRW.out r h).1) (by decide))
  have HPL : Hid (∀ n, n ≤ t.rows.length → (colsT t.cols t.cols.length ++ [10] ++ rowsT t.rows n).length ≤ 2000000000) := Lib.hid (fun n hn => by
   have h1 := Nat.le_trans (rrowsT_len 7000000 hR6 n) (Nat.mul_le_mul_right _ (Nat.le_trans hn h60))
   have h2 : 60 * (7000000 + 1) ≤ 500000000 := by decide
   have h3 : 1000 * 1000010 ≤ 1000100000 := by decide
   have h4 := Nat.le_trans h1 h2
   have h5 := Nat.le_trans hhl h3
   simp only [List.length_append, List.length_cons, List.length_nil]
   omega)
  have HR6 := Lib.hid hR6
  clear hR6
  obtain ⟨H, hH⟩ : ∃ H, colsT t.cols t.cols.length = H := ⟨_, rfl⟩
  rw [hH] at HPL hhl ⊢
  have HHD := Lib.hid hH
  clear hH hrb hcl
  go_wp2
  go_loopw [4, 17] (fun sv i wr => ∃ n : Nat, n ≤ t.rows.length ∧ i = .int .i64 n ∧ sv = .string (bs (H ++ [10] ++ rowsT t.rows n)) ∧ Hid (Keeps [] w3 wr)) (fun _ i _ => t.rows.length - (intOf i).toNat)
  case atStart => exact ⟨0, Nat.zero_le _, rfl, by simp [rowsT], Lib.hid (Keeps.refl _ _)⟩
  case round =>
   obtain ⟨n, hn, rfl, rfl, hk⟩ := hrel
   obtain ⟨z, rfl⟩ : ∃ z : World, z = wr := ⟨_, rfl⟩
   have hpl := HPL.out n hn
   by_cases hlt : n < t.rows.length
   ·have hli : (n : Int) < (t.rows.length : Int) := by omega
    obtain ⟨us, hul, hu1, hu2⟩ := (HB.out.keep HK3.out).keep hk.out
    obtain ⟨g, o, rfl, _, hg, hcs⟩ := hu1.open' (by omega) (by omega)
    have d1 := hcs n _ (List.getElem?_eq_getElem (by omega))
    obtain ⟨Ar, cr, hue, hcr, hRr⟩ := hu2 n (by omega) hlt
    rw [hue] at d1
    have hrw := HRW.out _ (List.getElem_mem hlt)
    have hst := rowsT_step hlt
    have hrl := HR6.out _ (List.getElem_mem hlt)
    generalize t.rows[n] = r at *
    have HTX := Lib.hid (rRowText_any r Ar cr z hRr hrw.2 (by omega) (HE.out.quiet (HK3.out.trans hk.out)))
    obtain ⟨u, hu⟩ : ∃ u, H ++ [10] ++ rowsT t.rows n = u := ⟨_, rfl⟩
    obtain ⟨rt, hrt⟩ : ∃ rt, rowT r r.length = rt := ⟨_, rfl⟩
    rw [hrt] at HTX hst hrl
    have HFIN : Hid ((.string (bs (u ++ (rt ++ [10]))) : Value) = .string (bs (H ++ [10] ++ rowsT t.rows (n + 1)))) := Lib.hid (by rw [hst, ← hu, List.append_assoc])
    rw [hu] at hpl ⊢
    clear hcs hu1 hu2 hue hul hu hrt hst hrw hRr
    go_wp2_with fail
    refine HTX.out.mono ?_
    rintro e w7 ⟨rfl, k7⟩
    have HKX := Lib.hid (hk.out.trans k7)
    clear k7
    go_wp2
    go_roundw
    case rel => exact ⟨n + 1, by omega, by go_num, HFIN.out, HKX⟩
    case measure => simp [intOf]; omega
   ·have hli : ¬ (n : Int) < (t.rows.length : Int) := by omega
    have HFIN : Hid (H ++ 10 :: rowsT t.rows n = printL t) := Lib.hid (by
     obtain rfl : n = t.rows.length := by omega
     unfold printL
     rw [HHD.out]
     simp)
    go_wp2
    go_ret2
    exact ⟨by unfold rtRes; rw [if_pos HRT.out, ← HFIN.out]; rfl, HK3.out.trans hk.out⟩
end Go.Proofs.YtpagiajlefejcaaGreatDoor
