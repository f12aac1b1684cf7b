/- table.Value, table.Print. -/
import Derived.Test.YtodjaomghmcoiaaGreatDoorRight
import Derived.Test.YtodjaomghmcoiaaGreatDoorBld
import Derived.Sort.Grow
import Derived.Lib.ItoaLen
namespace Go.Proofs.YtodjaomghmcoiaaGreatDoor
open Go.RowKit Go.Sort
attribute [local go_sem] bs_size bs_extract bs_append bs_toList
/-- The package-level variables that tables lean on. -/
structure TEnv (w : World) : Prop where
  p10 : Lib.TabIs Tryz.prog w "internal/strconv.uint64pow10" .u64 Lib.pow10Tab
  kinds : ∀ j, j < 3 → w.cell? ⟨0, j, none⟩ = some (.string (bs (kindW j)))
  mlen : ∃ m, w.cell? ⟨2, 0, none⟩ = some (.int .i64 m)
  esyn : ∃ t p, w.cell? ⟨3, 0, none⟩ = some (.iface t p)
  erng : ∃ t p, w.cell? ⟨4, 0, none⟩ = some (.iface t p)
theorem tabIs_quiet {P : Program} {w w' : World} {nm : String} {k : IntKind} {zs : List Int} (h : Lib.TabIs P w nm k zs) (hk : Keeps [] w w') : Lib.TabIs P w' nm k zs := by
  unfold Lib.TabIs World.var? at *
  cases hg : P.globalNamed nm with
  | none => rw [hg] at h; cases h
  | some g =>
    rw [hg] at h
    simp only [Option.bind_some] at h ⊢
    cases hh : w.heap[g]? with
    | none => rw [hh] at h; cases h
    | some o =>
      have hlt : g < w.heap.size := (Array.getElem?_eq_some_iff.1 hh).1
      rw [hk.block g hlt (by simp)]
      exact h
theorem TEnv.quiet {w w' : World} (h : TEnv w) (hk : Keeps [] w w') : TEnv w' :=
  ⟨tabIs_quiet h.p10 hk, fun j hj => hk.cell_of (h.kinds j hj) (by simp), by obtain ⟨m, hm⟩ := h.mlen; exact ⟨m, hk.cell_of hm (by simp)⟩,
   by obtain ⟨t, p, hm⟩ := h.esyn; exact ⟨t, p, hk.cell_of hm (by simp)⟩, by obtain ⟨t, p, hm⟩ := h.erng; exact ⟨t, p, hk.cell_of hm (by simp)⟩⟩
theorem keeps_grow (w : World) (os : Array Obj) : Keeps [] w (grow w os) :=
  ⟨rfl, rfl, by unfold grow; simp, fun k hk _ => by unfold grow; exact Array.getElem?_append_left hk⟩
theorem value_any (v : Vl) (hn : numOk v.num) (hw : v.word.length ≤ 1000000000) (w : World) (hE : TEnv w) :
    Calls Tryz.prog 25 #[vAgg v] w fun e w' => e = .returned (.string (bs (valueL v))) ∧ Keeps [] w w' := by
  obtain ⟨k, n, s⟩ := v
  simp only at hn hw
  show Calls _ _ #[.agg #[.int .i64 k, .int .i64 n, .string (bs s)]] w _
  have HE := Lib.hid hE
  have HN := Lib.hid hn
  clear hE hn
  by_cases h1 : k = 1
  · have hb1 : (k == 1) = true := by rw [h1]; rfl
    have HF : Hid (valueL ⟨k, n, s⟩ = Lib.itoa n) := Lib.hid (if_pos h1)
    clear h1
    go_enter Tryz.func25, Tryz.ntmps25
    go_wp2_with fail
    refine (Tryz.strconv_Itoa n HN.out.1 HN.out.2 _ (HE.out.quiet ((Keeps.refl _ _).alloc _)).p10).mono ?_
    rintro e w' ⟨rfl, k2, os, rfl⟩
    go_wp2
    go_ret
    exact ⟨by rw [HF.out]; rfl, (((Keeps.refl _ _).alloc _).drewN _).trans (keeps_grow _ _)⟩
  · have hb1 : (k == 1) = false := by rw [beq_eq_false_iff_ne]; exact h1
    have HF : Hid (valueL ⟨k, n, s⟩ = [39] ++ s ++ [39]) := Lib.hid (if_neg h1)
    clear h1
    go_enter Tryz.func25, Tryz.ntmps25
    go_wp2
    go_ret
    exact ⟨by rw [HF.out, ← bs_append, ← bs_append]; rfl, (Keeps.refl _ _).alloc _⟩
theorem kindW_len (j : Nat) : (kindW j).length ≤ 4 := by unfold kindW; split <;> simp
theorem nameB_len {s : Bs} (h : nameB s = true) : s.length ≤ 10 := by
  unfold nameB at h
  simp only [Bool.and_eq_true, decide_eq_true_eq] at h
  exact h.1.1.2
theorem okCol_of {l : List Cl} (h : colsB l = true) {n : Nat} (hn : n < l.length) : nameB l[n].name = true ∧ (l[n].kind = 1 ∨ l[n].kind = 2) := by
  unfold colsB at h
  simp only [Bool.and_eq_true, List.all_eq_true] at h
  have := h.2 n (List.mem_range.2 hn)
  unfold okCol at this
  rw [List.getElem?_eq_getElem hn] at this
  simp only [Bool.and_eq_true, Bool.or_eq_true, decide_eq_true_eq] at this
  exact this.1
theorem colsT_succ (l : List Cl) (k : Nat) (h : k < l.length) : colsT l (k + 1) = colsT l k ++ (if k = 0 then [] else [32]) ++ (l[k].name ++ [58] ++ kindW l[k].kind.toNat) := by
  conv => lhs; unfold colsT
  rw [List.getElem?_eq_getElem h]
theorem rowT_succ (r : List Vl) (k : Nat) (h : k < r.length) : rowT r (k + 1) = rowT r k ++ (if k = 0 then [] else [32]) ++ valueL r[k] := by
  conv => lhs; unfold rowT
  rw [List.getElem?_eq_getElem h]
theorem rowsT_succ (rs : List (List Vl)) (k : Nat) (h : k < rs.length) : rowsT rs (k + 1) = rowsT rs k ++ (rowT rs[k] rs[k].length ++ [10]) := by
  conv => lhs; unfold rowsT
  rw [List.getElem?_eq_getElem h]
theorem colsT_len {l : List Cl} (h : colsB l = true) : ∀ k, k ≤ l.length → (colsT l k).length ≤ 16 * k
  | 0, _ => Nat.zero_le _
  | k + 1, hk => by
    have ih := colsT_len h k (by omega)
    have h1 := nameB_len (okCol_of h (n := k) (by omega)).1
    have h2 := kindW_len (l[k]'(by omega)).kind.toNat
    rw [colsT_succ l k (by omega)]
    simp only [List.length_append, List.length_cons, List.length_nil]
    have h3 : (if k = 0 then ([] : Bs) else [32]).length ≤ 1 := by split <;> simp
    omega
theorem rv_len {v : Vl} (h : rvB v = true) : (valueL v).length ≤ 21 ∧ numOk v.num ∧ v.word.length ≤ 16 := by
  unfold rvB at h
  unfold valueL numOk
  by_cases h1 : v.kind = 1
  · rw [if_pos h1] at h ⊢
    simp only [Bool.and_eq_true, decide_eq_true_eq, beq_iff_eq] at h
    have := Lib.itoa_length_le v.num (by omega) (by omega)
    exact ⟨this, ⟨by omega, by omega⟩, by rw [h.1.1]; simp⟩
  · rw [if_neg h1] at h ⊢
    by_cases h2 : v.kind = 2
    · rw [if_pos h2] at h
      simp only [Bool.and_eq_true, decide_eq_true_eq] at h
      refine ⟨?_, ⟨by omega, by omega⟩, h.1.2⟩
      simp; omega
    · rw [if_neg h2] at h; cases h
theorem rowB_of {cs : List Cl} {r : List Vl} (h : rowB cs r = true) : r.length = cs.length ∧ ∀ i (hi : i < r.length), rvB r[i] = true := by
  unfold rowB at h
  simp only [Bool.and_eq_true, decide_eq_true_eq, List.all_eq_true] at h
  refine ⟨h.1, fun i hi => ?_⟩
  have := h.2 i (List.mem_range.2 hi)
  unfold okAt at this
  rw [List.getElem?_eq_getElem hi, List.getElem?_eq_getElem (by omega)] at this
  simp only [Bool.and_eq_true] at this
  exact this.2
theorem rowT_len {cs : List Cl} {r : List Vl} (h : rowB cs r = true) : ∀ k, k ≤ r.length → (rowT r k).length ≤ 22 * k
  | 0, _ => Nat.zero_le _
  | k + 1, hk => by
    have ih := rowT_len h k (by omega)
    have h1 := (rv_len ((rowB_of h).2 k (by omega))).1
    rw [rowT_succ r k (by omega)]
    simp only [List.length_append]
    have h3 : (if k = 0 then ([] : Bs) else [32]).length ≤ 1 := by split <;> simp
    omega
theorem rightB_of {t : Tb} (h : rightB t = true) : colsB t.cols = true ∧ t.cols.length ≤ 6 ∧ t.rows.length ≤ 60 ∧ ∀ r ∈ t.rows, rowB t.cols r = true := by
  unfold rightB at h
  simp only [Bool.and_eq_true, decide_eq_true_eq, List.all_eq_true] at h
  have hc := h.1.1
  unfold colsB at hc
  simp only [Bool.and_eq_true, decide_eq_true_eq] at hc
  exact ⟨h.1.1, hc.1.2, h.1.2, h.2⟩
theorem rowsT_len {t : Tb} (h : rightB t = true) : ∀ k, k ≤ t.rows.length → (rowsT t.rows k).length ≤ 140 * k
  | 0, _ => Nat.zero_le _
  | k + 1, hk => by
    obtain ⟨h1, h2, h3, h4⟩ := rightB_of h
    have ih := rowsT_len h k (by omega)
    have hr := h4 _ (List.getElem_mem (show k < t.rows.length by omega))
    have h5 := rowT_len hr _ (Nat.le_refl _)
    have h6 := (rowB_of hr).1
    rw [rowsT_succ t.rows k (by omega)]
    simp only [List.length_append, List.length_cons, List.length_nil]
    omega
end Go.Proofs.YtodjaomghmcoiaaGreatDoor
