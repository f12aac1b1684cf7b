/- OpsTurns as plain data: left out first, or last. No program in sight. OpsSort as plain data. No program in sight. Values stand in a row; plain. -/
import Derived.Test.YtpfkjejknlkkoaaGreatDoorOsoM29
import Derived.Test.YtpfkjejknlkkoaaGreatDoorOsoM2
set_option linter.unusedSimpArgs false
set_option linter.unusedVariables false
namespace Go.Proofs.YtpfkjejknlkkoaaGreatDoor
end Go.Proofs.YtpfkjejknlkkoaaGreatDoor
namespace Go.Proofs.YtpfkjejknlkkoaaGreatDoor
def jSo (cols : List Bs) : Jb := ⟨0, 4, [], [], cols, [], ⟨[], zV⟩, ⟨[], zV⟩, 0⟩
def jSf (j : Jb) : Jb := { j with code := 1 }
theorem one_sort {j : Jb} {t u : Tb} (hc : j.code = 4) : oneJ j [t] = some u ↔ rightB t = true ∧ pickOk j t.cols ∧ u = ⟨t.cols, sortK t j.cols⟩ := by
 rw [one_gen (by rw [hc]; rfl)]
 have e1 : colsJ { j with outs := [[120]] } ([t].map (·.cols)) = pickedJ { j with outs := [[120]] } t.cols := by
  unfold colsJ sizesN
  simp [hc]
 have e2 : ∀ out, madeJ { j with outs := [[120]] } [t] out = .ok [sortK t j.cols] := fun out => by
  unfold madeJ
  simp [hc]
 rw [e1]
 simp only [e2, List.mem_singleton, forall_eq]
 constructor
 ·rintro ⟨hr, out, rows, h1, h2, h3⟩
  injection h2 with h2
  subst h2
  obtain ⟨h4, h5⟩ := picked_ok.1 h1
  rw [if_pos (by simp only; omega)] at h5
  subst h5
  exact ⟨hr, h4, (tabs_single.1 h3).2⟩
 ·rintro ⟨hr, h4, rfl⟩
  refine ⟨hr, _, _, picked_ok.2 ⟨h4, rfl⟩, rfl, ?_⟩
  rw [if_pos (by simp only; omega)]
  exact tabs_single.2 ⟨by unfold sortK; rw [stS_len]; exact right_rows hr, rfl⟩
theorem sort_mem {t : Tb} {ns : List Bs} {r : List Vl} : r ∈ sortK t ns ↔ r ∈ t.rows := (stS_perm _).mem_iff
theorem sort_right {t : Tb} {ns : List Bs} (h : rightB t = true) : rightB ⟨t.cols, sortK t ns⟩ = true :=
 right_sub h (by unfold sortK; rw [stS_len]; exact right_rows h) fun _ hr => sort_mem.1 hr
theorem sort_again {cols : List Bs} {t s : Tb} (h : oneJ (jSo cols) [t] = some s) : oneJ (jSo cols) [s] = some s ∧ s.rows.length = t.rows.length := by
 obtain ⟨hr, hp, rfl⟩ := (one_sort rfl).1 h
 refine ⟨(one_sort rfl).2 ⟨sort_right hr, hp, ?_⟩, stS_len _⟩
 congr 1
 exact (stS_of_srt (stS_srt (leK_ord _) _)).symm
theorem sort_first {cols : List Bs} {t s : Tb} (h : oneJ (jSo cols) [t] = some s) : ∃ k, colIx t.cols (cols.getD 0 []) = some k ∧ k < t.cols.length ∧ ∀ i (h1 : i + 1 < s.rows.length), lessB (s.rows[i + 1].getD k zV) ((s.rows[i]'(by omega)).getD k zV) = false := by
 obtain ⟨hr, hp, rfl⟩ := (one_sort rfl).1 h
 obtain ⟨h1, _, h3, _⟩ := hp
 have h1' : 1 ≤ cols.length := h1
 obtain ⟨n, ns, rfl⟩ : ∃ n ns, cols = n :: ns := by
  match cols, h1' with
  | n :: ns, _ => exact ⟨n, ns, rfl⟩
 obtain ⟨k, hk⟩ := h3 n (by simp [jSo])
 refine ⟨k, hk, (colIx_some.1 hk).1, fun i hi => ?_⟩
 have hx : ixOf t.cols n = k := by unfold ixOf; rw [hk]; rfl
 have h2 : ∀ a b, leK ((n :: ns).map (ixOf t.cols)) a b = true → lessB (b.getD k zV) (a.getD k zV) = false := fun a b h => by
  rw [List.map_cons, leK_cons, Bool.and_eq_true, hx] at h
  have h2 := h.1
  unfold leV at h2
  rw [Bool.not_eq_true'] at h2
  exact h2
 exact h2 _ _ (List.pairwise_iff_getElem.1 (stS_srt (leK_ord ((n :: ns).map (ixOf t.cols))) t.rows) i (i + 1) (Nat.lt_of_succ_lt hi) hi (Nat.lt_succ_self _))
theorem sort_count {cols : List Bs} {t s : Tb} (h : oneJ (jSo cols) [t] = some s) (r : List Vl) : t.rows.count r = s.rows.count r := by
 obtain ⟨_, _, rfl⟩ := (one_sort rfl).1 h
 exact ((stS_perm _).count_eq r).symm
theorem sort_filter {cols : List Bs} {j : Jb} {t s : Tb} (h : oneJ (jSo cols) [t] = some s) :
  (oneJ (jSf j) [s] = none ∧ oneJ (jSf j) [t] = none) ∨ ∃ a b, oneJ (jSf j) [s] = some a ∧ oneJ (jSf j) [t] = some b ∧ oneJ (jSo cols) [b] = some a := by
 obtain ⟨hr, hp, rfl⟩ := (one_sort rfl).1 h
 rw [one_filter (jSf j) _ rfl, one_filter (jSf j) t rfl]
 by_cases hc : cmpE (jSf j) t.cols = none
 ·right
  refine ⟨_, _, if_pos ⟨sort_right hr, hc⟩, if_pos ⟨hr, hc⟩, (one_sort rfl).2 ⟨filter_right _ hr, hp, ?_⟩⟩
  unfold filterT
  congr 1
  exact stS_filter (leK_ord _) _ _
 ·left
  exact ⟨if_neg fun h => hc h.2, if_neg fun h => hc h.2⟩
end Go.Proofs.YtpfkjejknlkkoaaGreatDoor
namespace Go.Proofs.YtpfkjejknlkkoaaGreatDoor
end Go.Proofs.YtpfkjejknlkkoaaGreatDoor
