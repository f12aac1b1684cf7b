/- DiskSure: the plain law. What was written, by sector, and what a disk holds. No program in sight. -/
import Derived.Test.YtelafmakgokhbaaDoorRestP
namespace Go.Proofs.YtelafmakgokhbaaDoor
/-- Writes that a list comes to: where, and what. -/
def wroteOf (l : List Bs) (at_ : List Int) (k : Nat) : List (Nat × Bs) :=
  (List.range k).map fun i => (pickN (IntKind.i64.wrap (at_.getD (i % at_.length) 0 + (i : Int))) 16, padded (l.getD i []))
theorem wroteOf_succ (l : List Bs) (at_ : List Int) (k : Nat) : wroteOf l at_ (k + 1) = wroteOf l at_ k ++ [(pickN (IntKind.i64.wrap (at_.getD (k % at_.length) 0 + (k : Int))) 16, padded (l.getD k []))] := by
  simp [wroteOf, List.range_succ]
theorem wroteOf_len (l : List Bs) (at_ : List Int) (k : Nat) : (wroteOf l at_ k).length = k := by simp [wroteOf]
theorem wroteOf_lt (l : List Bs) (at_ : List Int) (k : Nat) : ∀ p ∈ wroteOf l at_ k, p.1 < 16 := by
  intro p hp
  obtain ⟨i, _, rfl⟩ := List.mem_map.1 hp
  exact pickN_lt _ (by decide)
theorem wroteOf_64 {l : List Bs} (h : ∀ s ∈ l, s.length ≤ 64) (at_ : List Int) (k : Nat) : ∀ p ∈ wroteOf l at_ k, p.2.length = 64 := by
  intro p hp
  obtain ⟨i, _, rfl⟩ := List.mem_map.1 hp
  refine padded_length _ ?_
  rw [List.getD_eq_getElem?_getD]
  cases hi : l[i]? with
  | none => exact Nat.zero_le _
  | some s => exact h s (List.mem_of_getElem? hi)
/-- What a sector may hold: nothing is known, or a list. -/
abbrev May := Nat → Option (List Bs)
def mayPut (first : Bool) (m : May) (p : Nat × Bs) : May := fun k => if k = p.1 then some ((if first then [] else (m k).getD []) ++ [p.2]) else m k
def mayAll (first : Bool) (m : May) (ws : List (Nat × Bs)) : May := ws.foldl (mayPut first) m
theorem mayAll_snoc (first : Bool) (m : May) (ws : List (Nat × Bs)) (p : Nat × Bs) : mayAll first m (ws ++ [p]) = mayPut first (mayAll first m ws) p := by simp [mayAll]
def may0 : May := fun _ => none
theorem may_first (ws : List (Nat × Bs)) (k : Nat) : mayAll true may0 ws k = (lastWrite ws k).map fun s => [s] := by
  rw [← List.reverse_reverse ws]
  induction ws.reverse with
  | nil => rfl
  | cons p ws ih =>
    rw [List.reverse_cons, mayAll_snoc, lastWrite_snoc]
    unfold mayPut
    by_cases h : k = p.1
    · rw [if_pos h, if_pos h.symm]; rfl
    · rw [if_neg h, if_neg (Ne.symm h), ih]
theorem may_len (first : Bool) (m : May) (N : Nat) (hm : ∀ j l, m j = some l → l.length ≤ N) (ws : List (Nat × Bs)) : ∀ j l, mayAll first m ws j = some l → l.length ≤ N + ws.length := by
  rw [← List.reverse_reverse ws]
  induction ws.reverse with
  | nil => intro j l h; exact hm j l h
  | cons p ws' ih =>
    rw [List.reverse_cons]
    generalize ws'.reverse = ws at ih ⊢
    rw [mayAll_snoc, List.length_append, List.length_singleton]
    intro j l h
    unfold mayPut at h
    by_cases e : j = p.1
    · rw [if_pos e] at h
      injection h with h
      rw [← h, List.length_append, List.length_singleton]
      cases first with
      | true => simp; omega
      | false =>
        simp only [Bool.false_eq_true, if_false]
        cases hj : mayAll false m ws j with
        | none => simp; omega
        | some l' => have := ih j l' hj; simp only [Option.getD_some]; omega
    · rw [if_neg e] at h
      have := ih j l h
      omega
/-- What is written more stands behind. -/
theorem may_more (ws : List (Nat × Bs)) (m : May) (k : Nat) : mayAll false m ws k = if (ws.filter fun p => p.1 == k) = [] then m k else some ((m k).getD [] ++ (ws.filter fun p => p.1 == k).map (·.2)) := by
  rw [← List.reverse_reverse ws]
  induction ws.reverse with
  | nil => rfl
  | cons p ws' ih =>
    rw [List.reverse_cons]
    generalize ws'.reverse = ws at ih ⊢
    rw [mayAll_snoc, List.filter_append]
    unfold mayPut
    by_cases h : k = p.1
    · have hp : (p.1 == k) = true := by rw [h]; exact beq_self_eq_true _
      rw [if_pos h, ih]
      simp only [List.filter_cons, hp, if_true, List.filter_nil]
      rw [if_neg (by simp)]
      by_cases hf : (ws.filter fun p => p.1 == k) = []
      · rw [if_pos hf, hf]; simp
      · rw [if_neg hf]; simp
    · have hp : (p.1 == k) = false := beq_false_of_ne (Ne.symm h)
      rw [if_neg h, ih]
      have e : [p].filter (fun p => p.1 == k) = [] := by simp [List.filter_cons, hp]
      rw [e, List.append_nil]
theorem lastWrite_kept {ws : List (Nat × Bs)} {ks : List Bool} {a : Nat} {s : Bs} (h : lastWrite (kept ws ks) a = some s) : ∃ p ∈ ws, p.1 = a ∧ p.2 = s := by
  have hm : ∀ (ws : List (Nat × Bs)) (ks : List Bool), ∀ p ∈ kept ws ks, p ∈ ws := by
    intro ws
    induction ws with
    | nil => intro ks p hp; cases ks <;> simp [kept] at hp
    | cons q ws ih =>
      intro ks p hp
      cases ks with
      | nil => simp [kept] at hp
      | cons b ks =>
        simp only [kept] at hp
        split at hp
        · rcases List.mem_cons.1 hp with rfl | hp
          · exact List.mem_cons_self ..
          · exact List.mem_cons_of_mem _ (ih ks p hp)
        · exact List.mem_cons_of_mem _ (ih ks p hp)
  unfold lastWrite at h
  obtain ⟨p, hp, rfl⟩ := Option.map_eq_some_iff.1 h
  have h1 := List.find?_some hp
  have h2 := List.mem_of_find?_eq_some hp
  exact ⟨p, hm ws ks p (List.mem_reverse.1 h2), by simpa using h1, rfl⟩
/-! ### The law -/
def sureD1 (l : List Bs) (at_ : List Int) : Dk := { sure := List.replicate 16 [], wait := wroteOf l at_ l.length, fuse := -1 }
def sureD2 (l : List Bs) (at_ : List Int) : Dk := { sure := puts (List.replicate 16 []) (wroteOf l at_ l.length), wait := [], fuse := -1 }
def sureD3 (l more : List Bs) (at_ : List Int) : Dk := { sure := puts (List.replicate 16 []) (wroteOf l at_ l.length), wait := wroteOf more at_ more.length, fuse := -1 }
def sureM1 (l : List Bs) (at_ : List Int) : May := mayAll true may0 (wroteOf l at_ l.length)
def sureM2 (l more : List Bs) (at_ : List Int) : May := mayAll false (sureM1 l at_) (wroteOf more at_ more.length)
theorem sure_sync (l : List Bs) (at_ : List Int) : (sureD1 l at_).sync = (0, sureD2 l at_) := rfl
theorem sureM1_at (l : List Bs) (at_ : List Int) (k : Nat) : sureM1 l at_ k = (lastWrite (wroteOf l at_ l.length) k).map fun s => [s] := may_first _ _
theorem last64 {l : List Bs} (h : ∀ s ∈ l, s.length ≤ 64) {at_ : List Int} {n k : Nat} {s : Bs} (hs : lastWrite (wroteOf l at_ n) k = some s) : s.length = 64 := by
  obtain ⟨p, hp, rfl⟩ := lastWrite_mem hs
  exact wroteOf_64 h at_ n p hp
/-- What is sure is what was written last. -/
theorem sure_at {l : List Bs} (h : ∀ s ∈ l, s.length ≤ 64) (at_ : List Int) {k : Nat} (hk : k < 16) {s : Bs} (hm : sureM1 l at_ k = some [s]) : (sureD2 l at_).at k = s := by
  rw [sureM1_at] at hm
  cases hl : lastWrite (wroteOf l at_ l.length) k with
  | none => rw [hl] at hm; cases hm
  | some u =>
    rw [hl] at hm
    have : u = s := by simpa using hm
    subst this
    rw [at_sure rfl]
    show content ((puts _ _).getD k []) = u
    rw [puts_at _ _ _ (by rw [List.length_replicate]; exact hk), hl, Option.getD_some]
    exact content_of (last64 h hl)
theorem kept_last {l more : List Bs} (h : ∀ s ∈ l, s.length ≤ 64) (h2 : ∀ s ∈ more, s.length ≤ 64) (at_ : List Int) (ks : List Bool) {k : Nat} (hk : k < 16) :
    (∃ p ∈ wroteOf more at_ more.length, p.1 = k ∧ ((sureD3 l more at_).crash ks).at k = p.2) ∨ ((wroteOf l at_ l.length = wroteOf l at_ l.length) ∧ ∃ s, lastWrite (wroteOf l at_ l.length) k = some s ∧ ((sureD3 l more at_).crash ks).at k = s) ∨ (lastWrite (wroteOf l at_ l.length) k = none ∧ ((sureD3 l more at_).crash ks).at k = zeros) := by
  have e : ((sureD3 l more at_).crash ks).at k = content ((lastWrite (kept (wroteOf more at_ more.length) ks) k).getD ((lastWrite (wroteOf l at_ l.length) k).getD [])) := by
    rw [at_sure rfl]
    show content ((puts (puts _ _) _).getD k []) = _
    rw [puts_at _ _ _ (by rw [puts_length, List.length_replicate]; exact hk), puts_at _ _ _ (by rw [List.length_replicate]; exact hk)]
    congr 2
    rw [List.getD_eq_getElem?_getD, List.getElem?_replicate]
    split <;> rfl
  rw [e]
  cases hw : lastWrite (kept (wroteOf more at_ more.length) ks) k with
  | some s =>
    obtain ⟨p, hp, hp1, rfl⟩ := lastWrite_kept hw
    exact .inl ⟨p, hp, hp1, content_of (wroteOf_64 h2 at_ _ p hp)⟩
  | none =>
    cases hl : lastWrite (wroteOf l at_ l.length) k with
    | some s => exact .inr (.inl ⟨rfl, s, rfl, content_of (last64 h hl)⟩)
    | none => exact .inr (.inr ⟨rfl, rfl⟩)
theorem sure_final {l more : List Bs} (h : ∀ s ∈ l, s.length ≤ 64) (h2 : ∀ s ∈ more, s.length ≤ 64) (at_ : List Int) (ks : List Bool) {k : Nat} (hk : k < 16) {t : Bs} (ht : ((sureD3 l more at_).crash ks).at k = t) {x : List Bs} (hx : (sureM2 l more at_ k).getD [] = x) :
    (x = [] → t = zeros) ∧ (t ∈ x ∨ t = zeros) ∧ (∀ y, x = [y] → (more.any fun s => padded s == y) = true ∨ t = y) := by
  have hm : sureM2 l more at_ k = _ := may_more (wroteOf more at_ more.length) (sureM1 l at_) k
  rw [hm, sureM1_at] at hx
  have hK := kept_last h h2 at_ ks (l := l) (more := more) hk
  rw [ht] at hK
  have hmem : ∀ p ∈ wroteOf more at_ more.length, p.1 = k → p ∈ (wroteOf more at_ more.length).filter fun p => p.1 == k := fun p hp e => List.mem_filter.2 ⟨hp, by rw [e]; exact beq_self_eq_true _⟩
  have hfil : ∀ p ∈ (wroteOf more at_ more.length).filter fun p => p.1 == k, ∃ s ∈ more, padded s = p.2 := fun p hp => by
    obtain ⟨i, hi, rfl⟩ := List.mem_map.1 (List.mem_filter.1 hp).1
    have hi' := List.mem_range.1 hi
    refine ⟨more[i], List.getElem_mem hi', ?_⟩
    show padded more[i] = padded (more.getD i [])
    rw [List.getD_eq_getElem?_getD, List.getElem?_eq_getElem hi']; rfl
  generalize (wroteOf more at_ more.length).filter (fun p => p.1 == k) = F at *
  by_cases hF : F = []
  · rw [if_pos hF] at hx
    have hno : ¬ ∃ p ∈ wroteOf more at_ more.length, p.1 = k ∧ t = p.2 := by
      rintro ⟨p, hp, e, _⟩
      have := hmem p hp e
      rw [hF] at this
      cases this
    rcases hK with hK | ⟨_, s, hs, rfl⟩ | ⟨hs, rfl⟩
    · exact absurd hK hno
    · rw [hs] at hx
      have hx' : [t] = x := hx
      subst hx'
      exact ⟨(fun e => by cases e), .inl (List.mem_singleton.2 rfl), fun y hy => .inr (by injection hy)⟩
    · rw [hs] at hx
      have hx' : [] = x := hx
      subst hx'
      exact ⟨fun _ => rfl, .inr rfl, (fun y hy => by cases hy)⟩
  · rw [if_neg hF] at hx
    have hx' : ((lastWrite (wroteOf l at_ l.length) k).map fun s => [s]).getD [] ++ F.map (·.2) = x := hx
    refine ⟨fun e => ?_, ?_, fun y hy => .inl ?_⟩
    · rw [e] at hx'
      have := (List.append_eq_nil_iff.1 hx').2
      exact absurd (List.map_eq_nil_iff.1 this) hF
    · rcases hK with ⟨p, hp, e, rfl⟩ | ⟨_, s, hs, rfl⟩ | ⟨hs, rfl⟩
      · left
        rw [← hx']
        exact List.mem_append_right _ (List.mem_map.2 ⟨p, hmem p hp e, rfl⟩)
      · left
        rw [← hx', hs]
        exact List.mem_append_left _ (List.mem_singleton.2 rfl)
      · exact .inr rfl
    · rw [hy] at hx'
      obtain ⟨p, F', rfl⟩ := List.exists_cons_of_ne_nil hF
      obtain ⟨s, hs, hsp⟩ := hfil p (List.mem_cons_self ..)
      have hyp : y = p.2 := by
        cases hl : ((lastWrite (wroteOf l at_ l.length) k).map fun s => [s]).getD [] with
        | nil =>
          rw [hl] at hx'
          simp only [List.nil_append, List.map_cons] at hx'
          injection hx' with e1 _
          exact e1.symm
        | cons a b =>
          rw [hl] at hx'
          have := congrArg List.length hx'
          simp at this
      rw [List.any_eq_true]
      exact ⟨s, hs, by simp [hsp, hyp]⟩
theorem sure_64 {l more : List Bs} (h : ∀ s ∈ l, s.length ≤ 64) (h2 : ∀ s ∈ more, s.length ≤ 64) (at_ : List Int) {k : Nat} {x : List Bs} (hx : (sureM2 l more at_ k).getD [] = x) : ∀ y ∈ x, y.length = 64 := by
  have hm : sureM2 l more at_ k = _ := may_more (wroteOf more at_ more.length) (sureM1 l at_) k
  have h1 : ∀ y ∈ (sureM1 l at_ k).getD [], y.length = 64 := by
    rw [sureM1_at]
    cases hl : lastWrite (wroteOf l at_ l.length) k with
    | none => intro y hy; cases hy
    | some s =>
      intro y hy
      rw [List.mem_singleton.1 (show y ∈ [s] from hy)]
      exact last64 h hl
  intro y hy
  rw [← hx, hm] at hy
  split at hy
  · exact h1 y hy
  · rcases List.mem_append.1 (show y ∈ _ ++ _ from hy) with hy | hy
    · exact h1 y hy
    · obtain ⟨p, hp, rfl⟩ := List.mem_map.1 hy
      exact wroteOf_64 h2 at_ _ p (List.mem_filter.1 hp).1
end Go.Proofs.YtelafmakgokhbaaDoor
