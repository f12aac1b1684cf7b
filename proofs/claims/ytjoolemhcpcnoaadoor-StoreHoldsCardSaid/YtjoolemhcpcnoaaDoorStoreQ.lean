/- store: the plain law of Put, and of a disk that loses power. No walk. -/
import Derived.Test.YtjoolemhcpcnoaaDoorStoreP
namespace Go.Proofs.YtjoolemhcpcnoaaDoor
open Go.RowKit
/-- The sectors behind a record's first one. -/
def wl (a : Nat) (s : Bs) (j : Nat) : List (Nat × Bs) := (List.range j).map fun i => (a + 1 + i, padded (chunk s i))
theorem wl_succ (a : Nat) (s : Bs) (j : Nat) : wl a s (j + 1) = wl a s j ++ [(a + 1 + j, padded (chunk s j))] := by simp [wl, List.range_succ]
theorem chunk_le (s : Bs) (k : Nat) : (chunk s k).length ≤ 64 := by rw [chunk_length]; omega
theorem wl_mem {a : Nat} {s : Bs} {j : Nat} {p : Nat × Bs} (h : p ∈ wl a s j) : a + 1 ≤ p.1 ∧ p.1 < a + 1 + j ∧ p.2.length = 64 := by
  obtain ⟨i, hi, rfl⟩ := List.mem_map.1 h
  have := List.mem_range.1 hi
  exact ⟨by simp, by simp; omega, padded_length _ (chunk_le s i)⟩
theorem lastWrite_out {ws : List (Nat × Bs)} {x : Nat} (h : ∀ p ∈ ws, p.1 ≠ x) : lastWrite ws x = none := by
  cases hl : lastWrite ws x with
  | none => rfl
  | some s =>
    unfold lastWrite at hl
    cases hf : ws.reverse.find? fun p => p.1 == x with
    | none => rw [hf] at hl; cases hl
    | some p =>
      have h1 := List.find?_some hf
      have h2 := List.mem_of_find?_eq_some hf
      exact absurd (by simpa using h1) (h p (by simpa using h2))
theorem lastWrite_wl (a : Nat) (s : Bs) (j i : Nat) (h : i < j) : lastWrite (wl a s j) (a + 1 + i) = some (padded (chunk s i)) := by
  induction j with
  | zero => omega
  | succ j ih =>
    rw [wl_succ, lastWrite_snoc]
    simp only
    by_cases e : j = i
    · subst e; rw [if_pos rfl]
    · rw [if_neg (by omega)]; exact ih (by omega)
/-- How the writes of a record end. -/
theorem writeP_ends (D : Dk) (a : Nat) (s : Bs) (k : Nat) : (writeP D a s k).2.sure = D.sure ∧ (∃ j, j ≤ k ∧ ((writeP D a s k).1 = true → j = k) ∧ (writeP D a s k).2.wait = D.wait ++ wl a s j) ∧ (D.fuse < 0 → (writeP D a s k).1 = true ∧ (writeP D a s k).2.fuse < 0) := by
  induction k with
  | zero => exact ⟨rfl, ⟨0, Nat.le_refl _, fun _ => rfl, by simp [writeP, wl]⟩, fun h => ⟨rfl, h⟩⟩
  | succ k ih =>
    unfold writeP
    rcases hw : writeP D a s k with ⟨b, D'⟩
    rw [hw] at ih
    obtain ⟨i1, ⟨j, hj, hjt, i2⟩, i3⟩ := ih
    simp only at i1 hjt i2 i3
    cases b with
    | false =>
      refine ⟨i1, ⟨j, by omega, fun h => (by cases h), i2⟩, fun h => ?_⟩
      have := (i3 h).1
      cases this
    | true =>
      simp only
      by_cases hf : D'.fuse = 0
      · rw [if_pos hf]
        exact ⟨i1, ⟨j, by omega, fun h => (by cases h), i2⟩, fun h => by have := (i3 h).2; omega⟩
      · rw [if_neg hf]
        refine ⟨by rw [add_sure]; exact i1, ⟨k + 1, Nat.le_refl _, fun _ => rfl, ?_⟩, fun h => ⟨rfl, ?_⟩⟩
        · show D'.wait ++ _ = _
          rw [i2, hjt rfl, wl_succ, List.append_assoc]
        · have := (i3 h).2
          show D'.burnt.fuse < 0
          unfold Dk.burnt
          rw [if_neg (by omega)]
          exact this
theorem burnt_neg {D : Dk} (h : D.fuse < 0) : D.burnt.fuse < 0 := by unfold Dk.burnt; rw [if_neg (by omega)]; exact h
/-- A disk that bears records, and the store that reads it. -/
structure Bears (D : Dk) (S : Sr) (l : List Bs) : Prop where
  wait : D.wait = []
  ok : D.Ok
  holds : Holds D.at D.sure.length 2 l
  eq : S = l.foldl kept1 Sr.new
  fit : S.Fit
theorem Bears.at_ {D : Dk} {S : Sr} {l : List Bs} (h : Bears D S l) : S.at_ = 2 + room l := by rw [h.eq, fold_at]; rfl
theorem Bears.new (n : Nat) : Bears (Dk.new n) Sr.new [] := ⟨rfl, ⟨fun s hs => .inl (List.eq_of_mem_replicate hs), by simp [Dk.new]⟩, trivial, rfl, fit_new⟩
theorem room_len : ∀ l : List Bs, l.length ≤ room l
  | [] => Nat.zero_le _
  | s :: l => by
    have := room_len l
    have h2 := secs_pos s.length
    have hr : room (s :: l) = secs s.length + room l := by simp [room]
    rw [List.length_cons]; omega
/-- What an Open makes of it. -/
theorem Bears.opens {D : Dk} {S : Sr} {l : List Bs} (h : Bears D S l) : ∃ n, openP D D.sure.length Sr.new = openP D n S := by
  have hl : l.length ≤ D.sure.length := by
    rcases l with _ | ⟨s, l⟩
    · exact Nat.zero_le _
    · have h2 := room_len (s :: l)
      have key : ∀ (l : List Bs) (a : Nat), Holds D.at D.sure.length a l → l ≠ [] → a + room l ≤ D.sure.length := by
        intro l
        induction l with
        | nil => intro a _ h; exact absurd rfl h
        | cons t l ih =>
          intro a h _
          obtain ⟨h1, h3, h4, h5, h6⟩ := h
          have hr : room (t :: l) = secs t.length + room l := by simp [room]
          by_cases e : l = []
          · subst e; rw [hr]; simp [room]; exact h1
          · have := ih _ h6 e; omega
      have := key _ _ h.holds (by simp)
      omega
  refine ⟨D.sure.length - l.length, ?_⟩
  have := openP_holds (D := D) (l := l) (S := Sr.new) (n := D.sure.length - l.length) h.holds
  rw [show l.length + (D.sure.length - l.length) = D.sure.length by omega, ← h.eq] at this
  exact this
/-- Writes ahead of which a disk bears records change nothing of them. -/
theorem Bears.beyond {D D' : Dk} {S : Sr} {l : List Bs} (h : Bears D S l) (hw : D'.wait = []) (hok : D'.Ok) (hlen : D'.sure.length = D.sure.length) (hat : ∀ k, k < S.at_ → D'.at k = D.at k) : Bears D' S l :=
  ⟨hw, hok, by rw [hlen]; exact h.holds.congr (fun k _ hk => hat k (by rw [h.at_]; exact hk)), h.eq, h.fit⟩
/-- The keys behind a Put. -/
theorem put_keys (S : Sr) (s : Bs) : (if (S.m (shaL s)).isSome then S else kept1 S s).keys = if (S.m (shaL s)).isSome then S.keys else S.keys ++ [shaL s] := by
  cases h : (S.m (shaL s)).isSome with
  | true => rfl
  | false => show (kept1 S s).keys = _; rw [kept1_out h]; rfl
/-- Put. -/
theorem Bears.put {D : Dk} {S : Sr} {l : List Bs} (h : Bears D S l) (s : Bs) (hs : s.length ≤ 8000) (hroom : S.at_ + secs s.length ≤ D.sure.length) :
    ((putP D S s).1 = 0 ∧ (∃ l', Bears (putP D S s).2.1 (putP D S s).2.2 l' ∧ room l' ≤ room l + secs s.length) ∧ (putP D S s).2.1.sure.length = D.sure.length ∧
      ((putP D S s).2.2 = if (S.m (shaL s)).isSome then S else kept1 S s) ∧
      (∀ k, (putP D S s).2.2.at_ ≤ k → k < D.sure.length → (putP D S s).2.1.at k = D.at k) ∧ S.at_ ≤ (putP D S s).2.2.at_ ∧ (D.fuse < 0 → (putP D S s).2.1.fuse < 0)) ∨
    ((putP D S s).1 = 14 ∧ (putP D S s).2.2 = S ∧ (putP D S s).2.1.sure = D.sure ∧ (∀ p ∈ (putP D S s).2.1.wait, S.at_ ≤ p.1 ∧ p.2.length = 64) ∧ (putP D S s).2.1.wait.length ≤ secs s.length ∧ ¬ D.fuse < 0) := by
  obtain ⟨e1, ⟨j, hj, hjt, e2⟩, e3⟩ := writeP_ends D S.at_ s (secs s.length - 1)
  have hs1 := secs_pos s.length
  cases hm : (S.m (shaL s)).isSome with
  | true =>
    have hP : putP D S s = (0, D, S) := by unfold putP; rw [if_pos hm]
    rw [hP]
    exact .inl ⟨rfl, ⟨l, h, by simp⟩, rfl, by simp, fun _ _ _ => rfl, Nat.le_refl _, fun h => h⟩
  | false =>
    have hP : putP D S s = match writeP D S.at_ s (secs s.length - 1) with
      | (false, D1) => (14, D1, S)
      | (true, D1) =>
        if D1.fuse = 0 then (14, D1, S)
        else if (D1.add S.at_ (headL s)).fuse = 0 then (14, D1.add S.at_ (headL s), S)
        else (0, (D1.add S.at_ (headL s)).synced, kept1 S s) := by unfold putP; rw [if_neg (by rw [hm]; decide)]; rfl
    rw [hP]
    rcases hw : writeP D S.at_ s (secs s.length - 1) with ⟨b, D1⟩
    rw [hw] at e1 e2 e3 hjt
    simp only at e1 e2 e3 hjt
    rw [h.wait, List.nil_append] at e2
    have hwm : ∀ p ∈ D1.wait, S.at_ ≤ p.1 ∧ p.2.length = 64 := fun p hp => by
      rw [e2] at hp
      have := wl_mem hp
      exact ⟨by omega, this.2.2⟩
    have hwn : D1.wait.length ≤ secs s.length - 1 := by rw [e2]; simp [wl]; exact hj
    have hwn2 : (D1.add S.at_ (headL s)).wait.length ≤ secs s.length := by rw [add_wait, List.length_append]; simp only [List.length_cons, List.length_nil]; omega
    have hwm2 : ∀ p ∈ (D1.add S.at_ (headL s)).wait, S.at_ ≤ p.1 ∧ p.2.length = 64 := fun p hp => by
      rcases List.mem_append.1 hp with hp | hp
      · exact hwm p hp
      · rw [List.mem_singleton.1 hp]; exact ⟨Nat.le_refl _, padded_length _ (by rw [headL_length]; omega)⟩
    cases b with
    | false => exact .inr ⟨rfl, rfl, e1, hwm, by show D1.wait.length ≤ _; omega, fun hf => by have := (e3 hf).1; cases this⟩
    | true =>
      simp only
      by_cases hf : D1.fuse = 0
      · rw [if_pos hf]
        exact .inr ⟨rfl, rfl, e1, hwm, by show D1.wait.length ≤ _; omega, fun hf' => by have := (e3 hf').2; omega⟩
      rw [if_neg hf]
      by_cases hf2 : (D1.add S.at_ (headL s)).fuse = 0
      · rw [if_pos hf2]
        refine .inr ⟨rfl, rfl, by rw [add_sure]; exact e1, hwm2, hwn2, fun hf' => ?_⟩
        have := burnt_neg (e3 hf').2
        have h0 : D1.burnt.fuse = 0 := hf2
        omega
      rw [if_neg hf2]
      left
      have hj' : j = secs s.length - 1 := hjt rfl
      have hok1 : (D1.add S.at_ (headL s)).Ok := ⟨by rw [add_sure, e1]; exact h.ok.1, fun p hp => (hwm2 p hp).2⟩
      have hsl : (D1.add S.at_ (headL s)).sure.length = D.sure.length := by rw [add_sure, e1]
      have hsy : ∀ k, k < D.sure.length → (D1.add S.at_ (headL s)).synced.at k = (D1.add S.at_ (headL s)).at k := fun k hk => at_put hok1 rfl rfl (by rw [hsl]; exact hk)
      have hat : ∀ k, (D1.add S.at_ (headL s)).at k = match lastWrite (wl S.at_ s j ++ [(S.at_, padded (headL s))]) k with | some u => u | none => D.at k := fun k => by
        rw [at_sure h.wait]
        unfold Dk.at
        rw [add_sure, e1, add_wait, e2]
        rfl
      have hne : ∀ k, (k < S.at_ ∨ S.at_ + secs s.length ≤ k) → (D1.add S.at_ (headL s)).at k = D.at k := fun k hk => by
        rw [hat k, lastWrite_out]
        intro p hp
        rcases List.mem_append.1 hp with hp | hp
        · have := wl_mem hp; omega
        · rw [List.mem_singleton.1 hp]; simp only; omega
      have hsl2 : (D1.add S.at_ (headL s)).synced.sure.length = D.sure.length := by show (puts _ _).length = _; rw [puts_length, hsl]
      have hat2 := h.at_
      refine ⟨rfl, ⟨l ++ [s], ⟨rfl, ⟨ok_puts hok1, fun p hp => by cases hp⟩, ?_, ?_, ?_⟩, by rw [room_append, room_one]; exact Nat.le_refl _⟩, hsl2, ?_, ?_, ?_, ?_⟩
      · rw [hsl2]
        refine Holds.snoc (h.holds.congr fun k h1 h2 => ?_) ⟨by rw [← hat2]; exact hroom, hs, ?_, fun i hi => ?_, trivial⟩
        · rw [hsy k (by omega), hne k (.inl (by omega))]
        · rw [← hat2, hsy _ (by omega), hat, lastWrite_snoc, if_pos rfl]
        · rw [← hat2, hsy _ (by omega), hat, lastWrite_snoc, if_neg (by omega), lastWrite_wl _ _ _ _ (by omega)]
      · show kept1 S s = _
        rw [List.foldl_append, ← h.eq]; rfl
      · exact fit_kept h.fit hs
      · rfl
      · intro k hk hkN
        have : (kept1 S s).at_ ≤ k := hk
        rw [kept1_at] at this
        rw [hsy k hkN, hne k (.inr this)]
      · show S.at_ ≤ (kept1 S s).at_
        rw [kept1_at]; omega
      · intro hf'
        exact burnt_neg (burnt_neg (e3 hf').2)
end Go.Proofs.YtjoolemhcpcnoaaDoor
