/- table.Name. -/
import Derived.Test.YtodjaomghmcoiaaGreatDoorTab
import Derived.Test.YtodjaomghmcoiaaGreatDoorShTab
import Derived.Shelf.Strings.SlTrimAscii
namespace Go.Proofs.YtodjaomghmcoiaaGreatDoor
open Go.RowKit
attribute [local go_sem] bs_size bs_extract bs_append bs_toList
theorem bs_lit' (k : Bs) : (bs k).data.toList = k := rfl
theorem indexByte_any (l : Bs) (c : UInt8) : decide (0 ≤ Lib.indexByte l c) = l.contains c := by
  induction l with
  | nil => rfl
  | cons b l ih =>
    have hge := Lib.indexByte_ge l c
    unfold Lib.indexByte
    rw [List.contains_cons]
    by_cases h : b = c
    · subst h; simp
    · have h1 : (b == c) = false := beq_eq_false_iff_ne.2 h
      have h2 : (c == b) = false := beq_eq_false_iff_ne.2 (Ne.symm h)
      rw [h1, h2, Bool.false_or, ← ih]
      simp only [Bool.false_eq_true, if_false]
      by_cases h3 : Lib.indexByte l c = -1
      · rw [h3]; rfl
      · have : (Lib.indexByte l c == -1) = false := beq_eq_false_iff_ne.2 h3
        rw [this, decide_eq_decide]
        simp only [Bool.false_eq_true, if_false]
        omega
theorem dropWhile_nil {p : UInt8 → Bool} (l : Bs) : (l.dropWhile p) = [] ↔ ∀ x ∈ l, p x = true := by
  induction l with
  | nil => simp
  | cons a l ih =>
    rw [List.dropWhile_cons]
    by_cases h : p a = true
    · rw [if_pos h, ih]; simp [h]
    · rw [if_neg h]; simp [h]
theorem dropWhile_mem {p : UInt8 → Bool} (l : Bs) (x : UInt8) (hx : x ∈ l) (hp : p x = false) : x ∈ l.dropWhile p := by
  induction l with
  | nil => cases hx
  | cons a l ih =>
    rw [List.dropWhile_cons]
    by_cases h : p a = true
    · rw [if_pos h]
      rcases List.mem_cons.1 hx with rfl | hx
      · rw [hp] at h; cases h
      · exact ih hx
    · rw [if_neg h]; exact hx
theorem trimS_nil (l cs : Bs) : (Lib.trimS l cs).isEmpty = l.all (cs.contains ·) := by
  rw [Bool.eq_iff_iff, List.isEmpty_iff, List.all_eq_true]
  unfold Lib.trimS Lib.trimLeftS Lib.trimRightS
  rw [dropWhile_nil]
  constructor
  · intro h x hx
    cases hc : cs.contains x with
    | true => rfl
    | false =>
      have h2 := dropWhile_mem (p := (cs.contains ·)) l.reverse x (by simpa using hx) hc
      have h3 := h x (by simpa using h2)
      rw [hc] at h3; cases h3
  · intro h x hx
    have h2 : x ∈ l.reverse.dropWhile (cs.contains ·) := by simpa using hx
    exact h x (by simpa using (List.dropWhile_sublist _).subset h2)
set_option maxRecDepth 100000 in
set_option maxHeartbeats 2000000 in
theorem name_any (s : Bs) (hs : s.length ≤ 1000000000) (w : World) :
    Calls Tryz.prog 21 #[.string (bs s)] w fun e w' => e = .returned (.bool (nameB s)) ∧ Keeps [] w w' := by
  obtain ⟨R, hR⟩ : ∃ R, nameB s = R := ⟨_, rfl⟩
  rw [hR]
  rcases s with _ | ⟨c, t⟩
  · have HR := Lib.hid hR
    clear hR
    go_enter Tryz.func21, Tryz.ntmps21
    go_wp2
    go_ret
    exact ⟨by rw [← HR.out]; rfl, Keeps.refl _ _⟩
  · have hi : ∀ W, Calls Tryz.prog 60 #[.string (bs letters), .int .u8 (((bs (c :: t))[0]'(by rw [bs_size]; simp)).toNat : Int)] W fun e w' => e = .returned (.int .i64 (Lib.indexByte letters c)) ∧ W = w' := fun W => by
      refine (Tryz.strings_IndexByte (bs letters) (((bs (c :: t))[0]'(by rw [bs_size]; simp)).toNat : Int) W).mono ?_
      rintro e w' ⟨rfl, rfl⟩
      refine ⟨?_, rfl⟩
      have e0 : ((bs (c :: t))[0]'(by rw [bs_size]; simp)) = c := rfl
      rw [e0, Int.toNat_natCast]
      have e1 : c.toNat.toUInt8 = c := by simp
      rw [e1]; rfl
    have hq := indexByte_any letters c
    generalize Lib.indexByte letters c = q at hi hq
    have ht := fun (W : World) => Any.strings_Trim_laid Tryz.lays160 (by kernel_rfl) (bs (c :: t)) (bs lettersDigits) W (by rw [bs_size]; omega) (by decide) (ascii_of_all (by decide))
    have hn := trimS_nil (c :: t) lettersDigits
    rw [bs_lit', bs_lit'] at ht
    generalize Lib.trimS (c :: t) lettersDigits = u at ht hn
    have HI := Lib.hid hi
    have HT := Lib.hid ht
    have HRR : Hid (R = (decide ((c :: t).length ≤ 10) && decide (0 ≤ q) && u.isEmpty)) := Lib.hid (hR.symm.trans (by unfold nameB; rw [hq, hn]; rfl))
    clear hi ht hn hq hR
    go_enter Tryz.func21, Tryz.ntmps21
    go_wp2_with (first | (go_at_call 60; refine (HI.out _).mono ?_; rintro e w5 ⟨rfl, rfl⟩) | (go_at_call 61; refine (HT.out _).mono ?_; rintro e w6 ⟨rfl, hb⟩))
    all_goals go_ret
    all_goals refine ⟨?_, by first | exact Keeps.of_below hb | exact Keeps.refl _ _⟩
    all_goals rw [HRR.out]
    all_goals refine congrArg (fun b => Ending.returned (.bool b)) (?_ : _ = _)
    all_goals first | rfl | (simp_all; done) | (simp_all; omega) | (simp_all; intros; omega)
end Go.Proofs.YtodjaomghmcoiaaGreatDoor
