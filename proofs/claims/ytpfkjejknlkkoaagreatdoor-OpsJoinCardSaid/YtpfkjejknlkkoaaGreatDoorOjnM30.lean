/- OpsTurns as plain data: left out first, or last. No program in sight. OpsSort as plain data. No program in sight. Values stand in a row; plain. -/
import Derived.Test.YtpfkjejknlkkoaaGreatDoorOjnM29
import Derived.Test.YtpfkjejknlkkoaaGreatDoorOjnM2
set_option linter.unusedSimpArgs false
set_option linter.unusedVariables false
namespace Go.Proofs.YtpfkjejknlkkoaaGreatDoor
end Go.Proofs.YtpfkjejknlkkoaaGreatDoor
namespace Go.Proofs.YtpfkjejknlkkoaaGreatDoor
theorem one_sort {j : Jb} {t u : Tb} (hc : j.code = 4) : oneJ j [t] = some u ↔ rightB t = true ∧ pickOk j t.cols ∧ u = ⟨t.cols, sortK t j.cols⟩ := by
 rw [one_gen (by rw [hc]; rfl)]
 have e1 : colsJ { j with outs := [[120]] } ([t].map (·.cols)) = pickedJ { j with outs := [[120]] } t.cols := by
  unfold colsJ sizesN
  simp [hc]
 have e2 : ∀ out, madeJ { j with outs := [[120]] } [t] out = .ok [sortK t j.cols] := fun out => by
  unfold madeJ
  simp [hc]
 rw [e1]
 simp only [e2, List.mem_singleton, forall_eq]
 constructor
 ·rintro ⟨hr, out, rows, h1, h2, h3⟩
  injection h2 with h2
  subst h2
  obtain ⟨h4, h5⟩ := picked_ok.1 h1
  rw [if_pos (by simp only; omega)] at h5
  subst h5
  exact ⟨hr, h4, (tabs_single.1 h3).2⟩
 ·rintro ⟨hr, h4, rfl⟩
  refine ⟨hr, _, _, picked_ok.2 ⟨h4, rfl⟩, rfl, ?_⟩
  rw [if_pos (by simp only; omega)]
  exact tabs_single.2 ⟨by unfold sortK; rw [stS_len]; exact right_rows hr, rfl⟩
theorem sort_mem {t : Tb} {ns : List Bs} {r : List Vl} : r ∈ sortK t ns ↔ r ∈ t.rows := (stS_perm _).mem_iff
theorem sort_right {t : Tb} {ns : List Bs} (h : rightB t = true) : rightB ⟨t.cols, sortK t ns⟩ = true :=
 right_sub h (by unfold sortK; rw [stS_len]; exact right_rows h) fun _ hr => sort_mem.1 hr
end Go.Proofs.YtpfkjejknlkkoaaGreatDoor
namespace Go.Proofs.YtpfkjejknlkkoaaGreatDoor
theorem rv_kind {a : Vl} (h : rvB a = true) : a.kind = 1 ∧ a.word = [] ∨ a.kind = 2 ∧ a.num = 0 := by
 by_cases h1 : a.kind = 1
 ·exact .inl ⟨h1, (rvB_int h h1).1⟩
 ·exact .inr ⟨(rvB_text h h1).1, (rvB_text h h1).2.1⟩
theorem less_one {a b : Vl} (ha : rvB a = true) (hb : rvB b = true) (hne : a ≠ b) : (lessB a b = true ∧ lessB b a = false) ∨ (lessB a b = false ∧ lessB b a = true) := by
 obtain ⟨k, n, s⟩ := a
 obtain ⟨k2, n2, s2⟩ := b
 have h1 := rv_kind ha
 have h2 := rv_kind hb
 clear ha hb
 unfold lessB
 simp only at h1 h2 ⊢
 rcases h1 with ⟨rfl, rfl⟩ | ⟨rfl, rfl⟩ <;> rcases h2 with ⟨rfl, rfl⟩ | ⟨rfl, rfl⟩
 ·have hn : n ≠ n2 := fun e => hne (by rw [e])
  simp
  omega
 ·simp
 ·simp
 ·have hs : s ≠ s2 := fun e => hne (by rw [e])
  simp only [if_true, if_neg (show ¬ ((2 : Int) = 1) by decide), blS]
  by_cases h : s < s2
  ·exact .inl ⟨decide_eq_true h, decide_eq_false (List.lt_asymm h)⟩
  ·refine .inr ⟨decide_eq_false h, decide_eq_true ?_⟩
   refine Classical.byContradiction fun h2 => hs (List.le_antisymm (List.not_lt.1 h2) (List.not_lt.1 h))
theorem less_trans {a b c : Vl} (ha : rvB a = true) (hb : rvB b = true) (hc : rvB c = true) (h1 : lessB a b = true) (h2 : lessB b c = true) : lessB a c = true := by
 obtain ⟨k, n, s⟩ := a
 obtain ⟨k2, n2, s2⟩ := b
 obtain ⟨k3, n3, s3⟩ := c
 have e1 := rv_kind ha
 have e2 := rv_kind hb
 have e3 := rv_kind hc
 clear ha hb hc
 unfold lessB at h1 h2 ⊢
 simp only at e1 e2 e3 h1 h2 ⊢
 rcases e1 with ⟨rfl, rfl⟩ | ⟨rfl, rfl⟩ <;> rcases e2 with ⟨rfl, rfl⟩ | ⟨rfl, rfl⟩ <;> rcases e3 with ⟨rfl, rfl⟩ | ⟨rfl, rfl⟩ <;> simp only [if_true, if_neg (show ¬ ((2 : Int) = 1) by decide), if_neg (show ¬ ((1 : Int) = 2) by decide), blS, decide_eq_true_eq] at h1 h2 ⊢ <;> first | omega | exact List.lt_trans h1 h2
end Go.Proofs.YtpfkjejknlkkoaaGreatDoor
