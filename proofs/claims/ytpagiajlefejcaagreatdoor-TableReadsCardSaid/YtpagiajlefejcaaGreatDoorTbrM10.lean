/- A text in ', trimmed. The reference's tables, plain: what it reads is what the program reads. Whether a byte stands in a text, as strings.Contains says it. -/
import Derived.Test.YtpagiajlefejcaaGreatDoorTbrM1
import Derived.Lib.TrimByte
import Derived.Test.YtpagiajlefejcaaGreatDoorTbrM5
import Derived.Lib.IndexMore
set_option linter.unusedSimpArgs false
set_option linter.unusedVariables false
namespace Go.Proofs.YtpagiajlefejcaaGreatDoor
theorem trim_quoted {w : Bs} (h : (39 : UInt8) ∉ w) : Lib.trimB (39 :: (w ++ [39])) 39 = w := by
 unfold Lib.trimB
 have hr : Lib.trimRightB (39 :: (w ++ [39])) 39 = if w = [] then [] else 39 :: w := by
  unfold Lib.trimRightB
  by_cases e : w = []
  ·subst e; rfl
  ·rw [if_neg e]
   obtain ⟨c, hc⟩ : ∃ c, w.getLast? = some c := by
    cases hl : w.getLast? with
    | none => exact absurd (List.getLast?_eq_none_iff.1 hl) e
    | some c => exact ⟨c, rfl⟩
   obtain ⟨u, rfl⟩ := List.getLast?_eq_some_iff.1 hc
   have hc39 : c ≠ 39 := fun e => h (by simp [e])
   simp [hc39]
 rw [hr]
 unfold Lib.trimLeftB
 by_cases e : w = []
 ·subst e; rfl
 ·rw [if_neg e]
  cases w with
  | nil => exact absurd rfl e
  | cons c t =>
   have hc39 : (c == 39) = false := by rw [beq_eq_false_iff_ne]; intro e; exact h (by simp [e])
   simp [List.dropWhile, hc39]
end Go.Proofs.YtpagiajlefejcaaGreatDoor
namespace Go.Proofs.YtpagiajlefejcaaGreatDoor
def rpv (v : Vl) (s : Bs) : Option Vl := if rvB v = true ∧ valueL v = s then some v else none
theorem rpv_yes {v : Vl} {s : Bs} (h1 : rvB v = true) (h2 : valueL v = s) : rpv v s = some v := if_pos ⟨h1, h2⟩
theorem rpv_no1 {v : Vl} {s : Bs} (h1 : rvB v = false) : rpv v s = none := if_neg fun h => by rw [h1] at h; cases h.1
theorem rpv_no2 {v : Vl} {s : Bs} (h2 : valueL v ≠ s) : rpv v s = none := if_neg fun h => h2 h.2
theorem rpv_law {v : Vl} {s : Bs} (h : ∀ u, pvL s = some u → u = v) : pvL s = rpv v s := by
 unfold rpv
 split
 ·rename_i h1
  have := pvL_value h1.1
  rw [h1.2] at this
  exact this
 ·rename_i h1
  cases hp : pvL s with
  | none => rfl
  | some u =>
   obtain ⟨e, hr⟩ := pvL_some hp
   have := h u hp
   subst this
   exact absurd ⟨hr, e⟩ h1
theorem pv_quote {s : Bs} (h : (39 : UInt8) ∈ s) : pvL s = rpv ⟨2, 0, Lib.trimB s 39⟩ s := rpv_law fun u hp => by
 obtain ⟨e, hr⟩ := pvL_some hp
 by_cases hk : u.kind = 1
 ·unfold valueL at e
  rw [if_pos hk] at e
  rw [← e] at h
  rcases itoa_byte _ _ h with h | h
  ·exact absurd h (by decide)
  ·exact absurd h (by decide)
 ·obtain ⟨k2, n0, -, -⟩ := rvB_text hr hk
  have hw := not_in_word hr badB_39
  unfold valueL at e
  rw [if_neg hk] at e
  have ht : Lib.trimB s 39 = u.word := by
   rw [← e]
   exact trim_quoted hw
  obtain ⟨a, b, c⟩ := u
  obtain rfl : a = 2 := k2
  obtain rfl : b = 0 := n0
  rw [ht]
theorem pv_int {s : Bs} (h : (39 : UInt8) ∉ s) {u : Vl} (hp : pvL s = some u) : Lib.atoiAll s = .ok u.num ∧ u = ⟨1, u.num, []⟩ := by
 obtain ⟨e, hr⟩ := pvL_some hp
 by_cases hk : u.kind = 1
 ·obtain ⟨hw, h1, h2⟩ := rvB_int hr hk
  unfold valueL at e
  rw [if_pos hk] at e
  refine ⟨by rw [← e]; exact atoi_itoa _ ⟨by omega, by omega⟩, ?_⟩
  obtain ⟨a, b, c⟩ := u
  obtain rfl : a = 1 := hk
  obtain rfl : c = [] := hw
  rfl
 ·unfold valueL at e
  rw [if_neg hk] at e
  exact absurd (by rw [← e]; simp) h
theorem pv_num {s : Bs} {n : Int} (h : (39 : UInt8) ∉ s) (hn : Lib.atoiAll s = .ok n) : pvL s = rpv ⟨1, n, []⟩ s := rpv_law fun u hp => by
 obtain ⟨h1, h2⟩ := pv_int h hp
 rw [hn] at h1
 injection h1 with h1
 rw [h2, h1]
theorem pv_bad {s : Bs} (h : (39 : UInt8) ∉ s) (hn : ∀ n, Lib.atoiAll s ≠ .ok n) (n : Int) : pvL s = rpv ⟨1, n, []⟩ s := rpv_law fun _ hp => absurd (pv_int h hp).1 (hn _)
def rcut (s : Bs) (k : Nat) : List Bs := (cutS s k).1
def rlast (s : Bs) (k : Nat) : Bs := (s.take k).drop (cutS s k).2.1
def ropen (s : Bs) (k : Nat) : Bool := (cutS s k).2.2
theorem cutS_le (s : Bs) : ∀ k, (cutS s k).2.1 ≤ k
 | 0 => Nat.le_refl _
 | k + 1 => by
  have h := cutS_le s k
  unfold cutS
  simp only
  split
  ·exact Nat.le_succ_of_le h
  ·split
   ·exact Nat.le_refl _
   ·exact Nat.le_succ_of_le h
theorem rlast_snoc (s : Bs) (k f : Nat) (h : k < s.length) (hf : f ≤ k) : (s.take (k + 1)).drop f = (s.take k).drop f ++ [s.getD k 0] := by
 rw [List.take_succ_eq_append_getElem h, List.drop_append_of_le_length (by rw [List.length_take]; omega)]
 congr 1
 simp [List.getD_eq_getElem?_getD, List.getElem?_eq_getElem h]
theorem rcut_quote {s : Bs} {k : Nat} (h : k < s.length) (hb : s.getD k 0 = 39) : rcut s (k + 1) = rcut s k ∧ rlast s (k + 1) = rlast s k ++ [s.getD k 0] ∧ ropen s (k + 1) = !ropen s k := by
 have e : cutS s (k + 1) = ((cutS s k).1, (cutS s k).2.1, !(cutS s k).2.2) := by
  show (if s.getD k 0 = 39 then _ else _) = _
  rw [if_pos hb]
 unfold rcut rlast ropen
 rw [e]
 exact ⟨rfl, rlast_snoc s k _ h (cutS_le s k), rfl⟩
theorem rcut_blank {s : Bs} {k : Nat} (hb : s.getD k 0 = 32) (ho : ropen s k = false) : rcut s (k + 1) = rcut s k ++ [rlast s k] ∧ rlast s (k + 1) = [] ∧ ropen s (k + 1) = false := by
 have ho' : (cutS s k).2.2 = false := ho
 have e : cutS s (k + 1) = ((cutS s k).1 ++ [(s.take k).drop (cutS s k).2.1], k + 1, (cutS s k).2.2) := by
  show (if s.getD k 0 = 39 then _ else if (s.getD k 0 = 32 && !(cutS s k).2.2) = true then _ else _) = _
  rw [if_neg (by rw [hb]; decide), if_pos (by rw [hb, ho']; decide)]
 unfold rcut rlast ropen
 rw [e]
 exact ⟨rfl, by simp, ho'⟩
theorem rcut_other {s : Bs} {k : Nat} (h : k < s.length) (hb : s.getD k 0 ≠ 39) (ho : ¬ (s.getD k 0 = 32 ∧ ropen s k = false)) : rcut s (k + 1) = rcut s k ∧ rlast s (k + 1) = rlast s k ++ [s.getD k 0] ∧ ropen s (k + 1) = ropen s k := by
 have e : cutS s (k + 1) = cutS s k := by
  show (if s.getD k 0 = 39 then _ else if (s.getD k 0 = 32 && !(cutS s k).2.2) = true then _ else _) = _
  rw [if_neg hb, if_neg (by
   intro h'
   rw [Bool.and_eq_true, decide_eq_true_iff] at h'
   exact ho ⟨h'.1, by simpa [ropen] using h'.2⟩)]
 unfold rcut rlast ropen
 rw [e]
 exact ⟨rfl, rlast_snoc s k _ h (cutS_le s k), rfl⟩
theorem rcut_all (s : Bs) : cutL s = rcut s s.length ++ [rlast s s.length] := by
 unfold cutL rcut rlast
 rw [List.take_length]
end Go.Proofs.YtpagiajlefejcaaGreatDoor
namespace Go.Proofs.YtpagiajlefejcaaGreatDoor
theorem contains_one (q : UInt8) (s : Bs) : Lib.contains s [q] = decide (q ∈ s) := by
 have key : ∀ (s : Bs), (∃ i, i ≤ s.length ∧ Lib.occAt s [q] i = true) ↔ q ∈ s := by
  intro s
  induction s with
  | nil =>
   constructor
   ·rintro ⟨i, hi, h⟩
    unfold Lib.occAt at h
    simp [List.isPrefixOf] at h
   ·intro h; cases h
  | cons c s ih =>
   constructor
   ·rintro ⟨i, hi, h⟩
    rcases i with _ | i
    ·unfold Lib.occAt at h
     simp [List.isPrefixOf] at h
     simp [h]
    ·exact List.mem_cons_of_mem _ (ih.1 ⟨i, by simpa using hi, h⟩)
   ·intro h
    rcases List.mem_cons.1 h with h | h
    ·exact ⟨0, Nat.zero_le _, by unfold Lib.occAt; simp [List.isPrefixOf, ← h]⟩
    ·obtain ⟨i, hi, ho⟩ := ih.2 h
     exact ⟨i + 1, by simpa using hi, ho⟩
 unfold Lib.contains
 rcases Lib.index_spec s [q] with ⟨h1, h2⟩ | ⟨i, h1, h2, h3, _⟩
 ·rw [h1]
  have : ¬ q ∈ s := fun hm => by
   obtain ⟨i, hi, ho⟩ := (key s).2 hm
   rw [h2 i hi] at ho
   cases ho
  rw [decide_eq_false this]
  rfl
 ·rw [h1, decide_eq_true ((key s).1 ⟨i, h2, h3⟩)]
  exact decide_eq_true (Int.natCast_nonneg _)
end Go.Proofs.YtpagiajlefejcaaGreatDoor
