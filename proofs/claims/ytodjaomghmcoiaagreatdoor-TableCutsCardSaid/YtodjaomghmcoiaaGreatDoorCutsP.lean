/- The first lines of a table's text: plain. -/
import Derived.Test.YtodjaomghmcoiaaGreatDoorTabLaw
namespace Go.Proofs.YtodjaomghmcoiaaGreatDoor
def endsNl (x : Bs) : Bool := ([10] : Bs).isSuffixOf x
theorem lines_prefix : ∀ (ls : List Bs), (∀ l ∈ ls, (10 : UInt8) ∉ l) → ∀ x : Bs, x <+: ls.flatMap (fun l => l ++ [10]) → (x = [] ∨ ∃ y, x = y ++ [10]) → x = (ls.take (x.count 10)).flatMap (fun l => l ++ [10]) ∧ x.count 10 ≤ ls.length
  | [], _, x, hp, _ => by
    have : x = [] := by simpa using hp
    subst this
    simp
  | l :: ls, hl, x, hp, he => by
    have hl0 := hl l (List.mem_cons_self ..)
    obtain ⟨z, hz⟩ := hp
    rw [List.flatMap_cons] at hz
    by_cases hlen : x.length ≤ l.length
    · have hx : x = l.take x.length := by
        have := congrArg (List.take x.length) hz
        rw [List.take_left, List.append_assoc, List.take_append_of_le_length hlen] at this
        exact this
      have hno : (10 : UInt8) ∉ x := fun hm => hl0 (List.mem_of_mem_take (by rw [hx] at hm; exact hm))
      rcases he with rfl | ⟨y, rfl⟩
      · simp
      · exact absurd (by simp) hno
    · have hx : ∃ x', x = l ++ 10 :: x' ∧ x' ++ z = ls.flatMap (fun l => l ++ [10]) := by
        have h1 := congrArg (List.take (l.length + 1)) hz
        have h2 := congrArg (List.drop (l.length + 1)) hz
        rw [List.take_append_of_le_length (by omega)] at h1
        rw [List.drop_append_of_le_length (by omega)] at h2
        have e1 : (l ++ [10]).length = l.length + 1 := by simp
        rw [← e1, List.take_left] at h1
        rw [← e1, List.drop_left] at h2
        refine ⟨x.drop (l ++ [10]).length, ?_, h2⟩
        have := List.take_append_drop (l ++ [10]).length x
        rw [h1] at this
        rw [← this]
        simp
      obtain ⟨x', rfl, hz'⟩ := hx
      have ih := lines_prefix ls (fun k hk => hl k (List.mem_cons_of_mem _ hk)) x' ⟨z, hz'⟩ (by
        rcases he with h | ⟨y, h⟩
        · simp at h
        · rcases List.eq_nil_or_concat x' with rfl | ⟨q, b, rfl⟩
          · exact .inl rfl
          · right
            have h' : (l ++ 10 :: q) ++ [b] = y ++ [10] := by simpa using h
            have hb := (List.append_inj' h' rfl).2
            injection hb with hb
            exact ⟨q, by rw [hb]; simp⟩)
      have hc : (l ++ 10 :: x').count 10 = x'.count 10 + 1 := by
        rw [List.count_append, List.count_eq_zero.2 hl0, List.count_cons_self]
        omega
      rw [hc]
      refine ⟨?_, by simp; exact ih.2⟩
      rw [List.take_succ_cons, List.flatMap_cons, ← ih.1]
      simp
theorem print_lines (t : Tb) : printL t = (headText t.cols :: t.rows.map rowText).flatMap (fun l => l ++ [10]) := by
  rw [print_join, join_lines]
theorem lines_free {t : Tb} (h : rightB t = true) : ∀ l ∈ headText t.cols :: t.rows.map rowText, (10 : UInt8) ∉ l := fun l hl => by
  obtain ⟨hc, _, hr⟩ := rightB_parts.1 h
  rcases List.mem_cons.1 hl with rfl | hl
  · exact headText_free hc
  · obtain ⟨r, hrm, rfl⟩ := List.mem_map.1 hl
    exact rowText_free (hr r hrm)
/-- Whole lines are a table of that many rows. -/
theorem cut_yes {t : Tb} (h : rightB t = true) (k : Nat) (he : ∃ y, (printL t).take k = y ++ [10]) : ∃ n, ((printL t).take k).count 10 = n + 1 ∧ n ≤ t.rows.length ∧ parseL ((printL t).take k) = .ok ⟨t.cols, t.rows.take n⟩ := by
  obtain ⟨h1, h2⟩ := lines_prefix _ (lines_free h) ((printL t).take k) (by rw [← print_lines]; exact List.take_prefix _ _) (.inr he)
  obtain ⟨y, hy⟩ := he
  obtain ⟨n, hn⟩ : ∃ n, ((printL t).take k).count 10 = n + 1 := ⟨y.count 10, by rw [hy, List.count_append]; simp⟩
  rw [hn] at h1 h2
  refine ⟨n, hn, by simpa using h2, ?_⟩
  obtain ⟨hc, hl, hr⟩ := rightB_parts.1 h
  have hr' : rightB ⟨t.cols, t.rows.take n⟩ = true := rightB_parts.2 ⟨hc, by simp only [List.length_take]; omega, fun r hrm => hr r (List.mem_of_mem_take hrm)⟩
  have e : (printL t).take k = printL ⟨t.cols, t.rows.take n⟩ := by
    rw [h1, print_lines]
    simp [List.map_take]
  rw [e]
  exact parse_print hr'
/-- What ends in no line is none. -/
theorem cut_no {x : Bs} (h : x.count 10 = 0 ∨ ¬ ∃ y, x = y ++ [10]) : ∃ e p, parseL x = .bad e p := by
  cases hp : parseL x with
  | bad e p => exact ⟨e, p, rfl⟩
  | ok t =>
    exfalso
    have hx := (print_parse hp).2
    rw [print_join, joinC_snoc 10 [] (by simp)] at hx
    rcases h with h | h
    · rw [← hx, List.count_append] at h
      simp at h
    · exact h ⟨_, hx.symm⟩
end Go.Proofs.YtodjaomghmcoiaaGreatDoor
