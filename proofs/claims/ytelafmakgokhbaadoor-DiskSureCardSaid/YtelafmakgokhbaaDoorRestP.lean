/- DiskRests: its plain facts. -/
import Derived.Test.YtelafmakgokhbaaDoorLost
import Derived.Test.YtelafmakgokhbaaDoorPick
namespace Go.Proofs.YtelafmakgokhbaaDoor
open Go.RowKit
/-- Every sector has its 64 bytes. -/
def Dk.Ok (D : Dk) : Prop := (∀ s ∈ D.sure, s = [] ∨ s.length = 64) ∧ ∀ p ∈ D.wait, p.2.length = 64
theorem lastWrite_mem {ws : List (Nat × Bs)} {a : Nat} {s : Bs} (h : lastWrite ws a = some s) : ∃ p ∈ ws, p.2 = s := by
  unfold lastWrite at h
  cases hf : ws.reverse.find? fun p => p.1 == a with
  | none => rw [hf] at h; cases h
  | some p =>
    rw [hf] at h
    exact ⟨p, by simpa using List.mem_of_find?_eq_some hf, by simpa using h⟩
theorem Dk.Ok.at_length {D : Dk} (h : D.Ok) {a : Nat} (ha : a < D.sure.length) : (D.at a).length = 64 := by
  unfold Dk.at
  cases hl : lastWrite D.wait a with
  | some s =>
    obtain ⟨p, hp, rfl⟩ := lastWrite_mem hl
    exact h.2 p hp
  | none =>
    show (content (D.sure.getD a [])).length = 64
    unfold content
    split
    · exact zeros_length
    · rename_i hne
      rw [List.getD_eq_getElem?_getD, List.getElem?_eq_getElem ha, Option.getD_some] at hne ⊢
      exact (h.1 _ (List.getElem_mem ha)).resolve_left hne

/-- The first k sectors. -/
def Dk.secs (D : Dk) (k : Nat) : List Bs := (List.range k).map D.at
theorem secs_succ (D : Dk) (k : Nat) : D.secs (k + 1) = D.secs k ++ [D.at k] := by simp [Dk.secs, List.range_succ]
theorem secs_length (D : Dk) (k : Nat) : (D.secs k).length = k := by simp [Dk.secs]
theorem strs_snoc (l : List Bs) (s : Bs) : strs (l ++ [s]) = strs l ++ [.string (bs s)] := by simp [strs]
theorem strs_oneCell (l : List Bs) : ∀ u ∈ strs l, u.oneCell' = true := by
  intro u hu
  obtain ⟨s, _, rfl⟩ := List.mem_map.1 hu
  rfl

theorem lastWrite_snoc (ws : List (Nat × Bs)) (p : Nat × Bs) (a : Nat) : lastWrite (ws ++ [p]) a = if p.1 = a then some p.2 else lastWrite ws a := by
  unfold lastWrite
  rw [List.reverse_append, List.reverse_singleton, List.singleton_append, List.find?_cons]
  by_cases h : p.1 = a
  · simp [h]
  · have : (p.1 == a) = false := by simpa using h
    simp [this, h]
theorem puts_at_rev (ws : List (Nat × Bs)) : ∀ (l : List Bs) (a : Nat), a < l.length → (puts l ws.reverse).getD a [] = (lastWrite ws.reverse a).getD (l.getD a []) := by
  induction ws with
  | nil => intro l a _; rfl
  | cons p ws ih =>
    intro l a ha
    rw [List.reverse_cons, lastWrite_snoc]
    have e : puts l (ws.reverse ++ [p]) = (puts l ws.reverse).set p.1 p.2 := by unfold puts; rw [List.foldl_append]; rfl
    rw [e]
    by_cases h : p.1 = a
    · subst h
      rw [if_pos rfl, List.getD_eq_getElem?_getD, List.getElem?_set_self (by rw [puts_length]; exact ha)]
      rfl
    · rw [if_neg h, List.getD_eq_getElem?_getD, List.getElem?_set_ne h, ← List.getD_eq_getElem?_getD, ih l a ha]
theorem puts_at (ws : List (Nat × Bs)) (l : List Bs) (a : Nat) (h : a < l.length) : (puts l ws).getD a [] = (lastWrite ws a).getD (l.getD a []) := by
  have := puts_at_rev ws.reverse l a h
  rwa [List.reverse_reverse] at this
theorem content_of {s : Bs} (h : s.length = 64) : content s = s := by
  unfold content
  rw [if_neg (by rintro rfl; simp at h)]
theorem at_sure {D : Dk} (h : D.wait = []) (a : Nat) : D.at a = content (D.sure.getD a []) := by
  unfold Dk.at
  rw [h]; rfl
theorem at_put {D : Dk} (h : D.Ok) {D' : Dk} (hs : D'.sure = puts D.sure D.wait) (hw : D'.wait = []) {a : Nat} (ha : a < D.sure.length) : D'.at a = D.at a := by
  rw [at_sure hw, hs, puts_at _ _ _ ha]
  unfold Dk.at
  cases hl : lastWrite D.wait a with
  | some s =>
    obtain ⟨p, hp, rfl⟩ := lastWrite_mem hl
    exact content_of (h.2 p hp)
  | none => rfl
theorem secs_congr {D D' : Dk} {n : Nat} (h : ∀ a, a < n → D'.at a = D.at a) : D'.secs n = D.secs n := by
  unfold Dk.secs
  exact List.map_congr_left fun a ha => h a (List.mem_range.1 ha)
theorem ok_puts {D : Dk} (h : D.Ok) : ∀ s ∈ puts D.sure D.wait, s = [] ∨ s.length = 64 := by
  intro s hs
  obtain ⟨a, ha, rfl⟩ := List.getElem_of_mem hs
  have ha' : a < D.sure.length := by rwa [puts_length] at ha
  have e := puts_at D.wait D.sure a ha'
  rw [List.getD_eq_getElem?_getD, List.getElem?_eq_getElem ha, Option.getD_some] at e
  rw [e]
  cases hl : lastWrite D.wait a with
  | some s =>
    obtain ⟨p, hp, rfl⟩ := lastWrite_mem hl
    exact .inr (h.2 p hp)
  | none =>
    rw [Option.getD_none, List.getD_eq_getElem?_getD, List.getElem?_eq_getElem ha', Option.getD_some]
    exact h.1 _ (List.getElem_mem ha')

/-- The disk when k texts have been written. -/
def wrote (l : List Bs) (at_ : List Int) (k : Nat) : Dk :=
  { sure := List.replicate 16 [], wait := (List.range k).map fun i => (pickN (IntKind.i64.wrap (at_.getD (i % at_.length) 0 + (i : Int))) 16, padded (l.getD i [])), fuse := -1 }
theorem wrote_succ (l : List Bs) (at_ : List Int) (k : Nat) (h : (l.getD k []).length ≤ 64) : (wrote l at_ k).write (pickN (IntKind.i64.wrap (at_.getD (k % at_.length) 0 + (k : Int))) 16 : Nat) (l.getD k []) = (0, wrote l at_ (k + 1)) := by
  have hp := pickN_lt (IntKind.i64.wrap (at_.getD (k % at_.length) 0 + (k : Int))) (show 0 < 16 by decide)
  unfold Dk.write
  rw [if_neg (by show ¬ (_ ∨ ((List.replicate 16 ([] : Bs)).length : Int) ≤ _); rw [List.length_replicate]; omega), if_neg (by omega), if_neg (by show ¬ ((-1 : Int) = 0); decide), Int.toNat_natCast]
  simp [wrote, Dk.burnt, List.range_succ]
theorem wrote_ok (l : List Bs) (at_ : List Int) (h : ∀ s ∈ l, s.length ≤ 64) (k : Nat) : (wrote l at_ k).Ok := by
  refine ⟨fun s hs => .inl (List.eq_of_mem_replicate hs), fun p hp => ?_⟩
  obtain ⟨i, _, rfl⟩ := List.mem_map.1 hp
  refine padded_length _ ?_
  rw [List.getD_eq_getElem?_getD]
  cases hi : l[i]? with
  | none => simp
  | some s => exact h s (List.mem_of_getElem? hi)
/-- Behind the Sync. -/
def rested (l : List Bs) (at_ : List Int) : Dk := { sure := puts (List.replicate 16 []) (wrote l at_ l.length).wait, wait := [], fuse := -1 }
theorem rested_sync (l : List Bs) (at_ : List Int) : (wrote l at_ l.length).sync = (0, rested l at_) := rfl
theorem rested_crash (l : List Bs) (at_ : List Int) (ks : List Bool) : (rested l at_).crash ks = rested l at_ := rfl
theorem rested_len (l : List Bs) (at_ : List Int) : (rested l at_).sure.length = 16 := by show (puts _ _).length = 16; rw [puts_length, List.length_replicate]
theorem rested_ok (l : List Bs) (at_ : List Int) (h : ∀ s ∈ l, s.length ≤ 64) : (rested l at_).Ok := ⟨ok_puts (wrote_ok l at_ h l.length), by simp [rested]⟩
theorem rested_secs (l : List Bs) (at_ : List Int) (h : ∀ s ∈ l, s.length ≤ 64) : (rested l at_).secs 16 = (wrote l at_ l.length).secs 16 :=
  secs_congr fun a ha => at_put (wrote_ok l at_ h l.length) rfl rfl (by simpa [wrote] using ha)
/-- .. with a fuse. -/
def fused (l : List Bs) (at_ : List Int) (n : Int) : Dk := { rested l at_ with fuse := n }
theorem fused_0 (l : List Bs) (at_ : List Int) : (rested l at_).fused 0 = fused l at_ 0 := rfl
theorem fused_1 (l : List Bs) (at_ : List Int) : (fused l at_ 0).fused 1 = fused l at_ 1 := rfl
theorem fused_write (l : List Bs) (at_ : List Int) : (fused l at_ 0).write 3 [120] = (14, fused l at_ 0) := by
  unfold Dk.write
  rw [if_neg (by show ¬ (_ ∨ ((fused l at_ 0).sure.length : Int) ≤ _); rw [show (fused l at_ 0).sure.length = 16 from rested_len l at_]; omega), if_neg (by decide), if_pos (show (fused l at_ 0).fuse = 0 from rfl)]
theorem fused_sync (l : List Bs) (at_ : List Int) : (fused l at_ 0).sync = (14, fused l at_ 0) := rfl
/-- .. and one write done. -/
def last1 (l : List Bs) (at_ : List Int) : Dk := { rested l at_ with wait := [(3, padded [120])], fuse := 0 }
theorem last_write (l : List Bs) (at_ : List Int) : (fused l at_ 1).write 3 [120] = (0, last1 l at_) := by
  unfold Dk.write
  rw [if_neg (by show ¬ (_ ∨ ((fused l at_ 1).sure.length : Int) ≤ _); rw [show (fused l at_ 1).sure.length = 16 from rested_len l at_]; omega), if_neg (by decide), if_neg (by show ¬ ((1 : Int) = 0); decide)]
  rfl
theorem last_sync (l : List Bs) (at_ : List Int) : (last1 l at_).sync = (14, last1 l at_) := rfl
theorem fused_secs (l : List Bs) (at_ : List Int) (n : Int) : (fused l at_ n).secs 16 = (rested l at_).secs 16 := secs_congr fun _ _ => rfl

end Go.Proofs.YtelafmakgokhbaaDoor
