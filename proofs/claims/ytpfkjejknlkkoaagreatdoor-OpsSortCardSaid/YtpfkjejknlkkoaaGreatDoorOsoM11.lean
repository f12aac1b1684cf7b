/- strings.Split and strings.Cut at one byte, as plain functions. slices.Index over kinds[:]. lines[1:]. -/
import Derived.Test.YtpfkjejknlkkoaaGreatDoorOsoM10
import Derived.Test.YtpfkjejknlkkoaaGreatDoorOsoM6
import Derived.Lib.Split
import Derived.Lib.CountLaws
set_option linter.unusedSimpArgs false
set_option linter.unusedVariables false
namespace Go.Proofs.YtpfkjejknlkkoaaGreatDoor
open Go.RowKit
theorem index1_hit (c : UInt8) (l : Bs) : Lib.index (c :: l) [c] = 0 := by unfold Lib.index; simp
theorem index1_pass {b c : UInt8} (h : b ≠ c) (l : Bs) : Lib.index (b :: l) [c] = if Lib.index l [c] = -1 then -1 else Lib.index l [c] + 1 := by
 have hp : ([c] : Bs).isPrefixOf (b :: l) = false := by
  simp only [List.isPrefixOf, Bool.and_true, beq_eq_false_iff_ne]
  exact fun e => h e.symm
 conv => lhs; unfold Lib.index
 rw [hp]
 simp
theorem splitC_eq (c : UInt8) : ∀ s : Bs, Lib.splitK [c] 0 (Lib.count s [c]) s = splitC c s
 | [] => by rw [Lib.count_miss (by rfl)]; rfl
 | b :: l => by
  have ih := splitC_eq c l
  unfold splitC
  by_cases hb : b = c
  ·subst hb
   rw [if_pos rfl, Lib.count_hit (i := 0) (by simp) (index1_hit b l), Nat.add_comm]
   simp only [List.length_cons, List.length_nil, Nat.zero_add, List.drop_succ_cons, List.drop_zero]
   rw [← ih]
   conv => lhs; unfold Lib.splitK
   rw [index1_hit]
   simp
  ·rw [if_neg hb]
   have hp := index1_pass hb l
   rcases Lib.index_spec l [c] with ⟨h1, _⟩ | ⟨i, h1, h2, _, _⟩
   ·rw [if_pos h1] at hp
    rw [Lib.count_miss hp]
    rw [Lib.count_miss h1] at ih
    rw [← ih]
    rfl
   ·rw [if_neg (by omega), h1] at hp
    have hp' : Lib.index (b :: l) [c] = ((i + 1 : Nat) : Int) := by omega
    rw [Lib.count_hit (by simp) hp', Nat.add_comm]
    rw [Lib.count_hit (by simp) h1, Nat.add_comm] at ih
    simp only [List.length_cons, List.length_nil, Nat.zero_add, List.drop_succ_cons] at ih ⊢
    conv at ih => lhs; unfold Lib.splitK
    conv => lhs; unfold Lib.splitK
    rw [hp', if_neg (by rw [beq_iff_eq]; omega)]
    rw [h1, if_neg (by rw [beq_iff_eq]; omega)] at ih
    rw [← ih]
    simp [show ((i : Int) + 1).toNat = i + 1 by omega]
theorem cutC_eq (c : UInt8) : ∀ s : Bs, (Lib.cut s [c]).1 = (cutC c s).1 ∧ (Lib.cut s [c]).2.1 = (cutC c s).2
 | [] => by unfold Lib.cut; exact ⟨rfl, rfl⟩
 | b :: l => by
  have ih := cutC_eq c l
  unfold cutC
  by_cases hb : b = c
  ·subst hb
   rw [if_pos rfl]
   unfold Lib.cut
   rw [index1_hit]
   simp
  ·rw [if_neg hb]
   have hp := index1_pass hb l
   unfold Lib.cut at ih ⊢
   rcases Lib.index_spec l [c] with ⟨h1, _⟩ | ⟨i, h1, h2, _, _⟩
   ·rw [if_pos h1] at hp
    rw [hp, if_neg (by decide)]
    rw [h1, if_neg (by decide)] at ih
    exact ⟨by rw [← ih.1], ih.2⟩
   ·rw [if_neg (by omega), h1] at hp
    rw [hp, if_pos (by omega)]
    rw [h1, if_pos (by omega)] at ih
    simp only [show ((i : Int) + 1).toNat = i + 1 by omega, Int.toNat_natCast, List.length_cons, List.length_nil, Nat.zero_add, List.take_succ_cons, List.drop_succ_cons] at ih ⊢
    exact ⟨by rw [ih.1], ih.2⟩
theorem splitC_ne (c : UInt8) (s : Bs) : splitC c s ≠ [] := by
 cases s with
 | nil => simp [splitC]
 | cons b l =>
  unfold splitC
  split
  ·simp
  ·split <;> simp
theorem splitC_len (c : UInt8) : ∀ s : Bs, (splitC c s).length ≤ s.length + 1 ∧ 1 ≤ (splitC c s).length ∧ ∀ u ∈ splitC c s, u.length ≤ s.length
 | [] => by unfold splitC; exact ⟨Nat.le_refl _, Nat.le_refl _, fun u hu => by simp at hu; rw [hu]; exact Nat.le_refl _⟩
 | b :: l => by
  obtain ⟨h1, h2, h3⟩ := splitC_len c l
  unfold splitC
  split
  ·refine ⟨by simp; omega, by simp, fun u hu => ?_⟩
   rcases List.mem_cons.1 hu with rfl | hu
   ·simp
   ·have := h3 u hu; simp; omega
  ·split
   ·rename_i h t he
    rw [he] at h1 h3
    refine ⟨by simp at *; omega, by simp, fun u hu => ?_⟩
    rcases List.mem_cons.1 hu with rfl | hu
    ·have := h3 h (List.mem_cons_self ..); simp; omega
    ·have := h3 u (List.mem_cons_of_mem _ hu); simp; omega
   ·rename_i he; rw [he] at h2; simp at h2
theorem cutC_len (c : UInt8) : ∀ s : Bs, (cutC c s).1.length ≤ s.length ∧ (cutC c s).2.length ≤ s.length
 | [] => ⟨Nat.le_refl _, Nat.le_refl _⟩
 | b :: l => by
  obtain ⟨h1, h2⟩ := cutC_len c l
  unfold cutC
  split
  ·exact ⟨by simp, by simp⟩
  ·exact ⟨by simp; omega, by simp; omega⟩
theorem map_bs : ∀ l : List ByteArray, l.map Value.string = strs (l.map (·.data.toList))
 | [] => rfl
 | b :: l => by
  have ih := map_bs l
  unfold strs at *
  simp only [List.map_cons]
  rw [ih]
  rfl
theorem splitB_any (c : UInt8) (s : Bs) : (Lib.splitB ⟨#[c]⟩ 0 (Lib.countB (bs s) ⟨#[c]⟩) (bs s)).map Value.string = strs (splitC c s) := by
 rw [map_bs, Lib.splitB_data, ← splitC_eq]
 rfl
theorem countB_any (c : UInt8) : ∀ s : Bs, Lib.count s [c] + 1 = (splitC c s).length
 | [] => by rw [Lib.count_miss (by rfl)]; rfl
 | b :: l => by
  have ih := countB_any c l
  unfold splitC
  by_cases hb : b = c
  ·subst hb
   rw [if_pos rfl, Lib.count_hit (i := 0) (by simp) (index1_hit b l)]
   simp
   omega
  ·rw [if_neg hb]
   have hp := index1_pass hb l
   have hl : Lib.count (b :: l) [c] = Lib.count l [c] := by
    rcases Lib.index_spec l [c] with ⟨h1, _⟩ | ⟨i, h1, h2, _, _⟩
    ·rw [if_pos h1] at hp
     rw [Lib.count_miss hp, Lib.count_miss h1]
    ·rw [if_neg (by omega), h1] at hp
     have hp' : Lib.index (b :: l) [c] = ((i + 1 : Nat) : Int) := by omega
     rw [Lib.count_hit (by simp) hp', Lib.count_hit (by simp) h1]
     simp
   rw [hl]
   split
   ·rename_i h t he
    rw [he] at ih
    simpa using ih
   ·rename_i he
    exact absurd he (splitC_ne c l)
set_option maxHeartbeats 1000000 in
theorem split_any (c : UInt8) (s : Bs) (hs : s.length ≤ 1000000000) (w : World) (hE : TEnv w) :
  Calls Tryz.prog 36 #[.string (bs s), .string ⟨#[c]⟩] w fun e w' => e = .returned (.slice (some ⟨w.heap.size, 0, none⟩) (splitC c s).length (splitC c s).length) ∧ Rd w' [] 1 (some ⟨w.heap.size, 0, none⟩) (splitC c s).length (strs (splitC c s)) ∧ Keeps [] w w' := by
 obtain ⟨m, hm⟩ := hE.mlen
 refine (Tryz.strings_Split (bs s) ⟨#[c]⟩ m w (by rw [bs_size]; omega) hm (Nat.le_refl 1)).mono ?_
 rintro e w' ⟨rfl, rfl⟩
 have e1 : Lib.countB (bs s) ⟨#[c]⟩ + 1 = (splitC c s).length := countB_any c s
 rw [e1]
 refine ⟨rfl, ?_, (Keeps.refl _ _).alloc _⟩
 rw [splitB_any]
 refine ⟨by rw [strs_length, Nat.mul_one], fun _ => ⟨_, rfl, by simp, by simp, fun j u hu => ?_⟩⟩
 have h := (Blk.new w 9 (strs (splitC c s)).toArray).cell j
 rw [add_at, Nat.zero_add]
 rw [h]
 simpa using hu
theorem split_at (c : UInt8) (s : Bs) (hs : s.length ≤ 1000000000) (w : World) (hE : TEnv w) :
  Calls Tryz.prog 36 #[.string (bs s), .string ⟨#[c]⟩] w fun e w' => ∃ b o, e = .returned (.slice (some ⟨b, o, none⟩) (splitC c s).length (splitC c s).length) ∧ w.heap.size ≤ b ∧ b < w'.heap.size ∧ (∀ j u, (strs (splitC c s))[j]? = some u → w'.cell? ⟨b, o + j, none⟩ = some u) ∧ Keeps [] w w' := by
 refine (split_any c s hs w hE).mono ?_
 rintro e w' ⟨rfl, h, hk⟩
 obtain ⟨b, o, hA, _, hb, hc⟩ := h.open' (splitC_len c s).2.1 (by decide)
 exact ⟨b, o, by rw [hA], by injection hA with hA; injection hA with hA; omega, hb, hc, hk⟩
set_option maxHeartbeats 1000000 in
theorem cut1_any (c : UInt8) (s : Bs) (hs : s.length ≤ 1000000000) (w : World) (hE : TEnv w) :
  Calls Tryz.prog 38 #[.string (bs s), .string ⟨#[c]⟩] w fun e w' => (∃ b, e = .returned (.tuple #[.string (bs (cutC c s).1), .string (bs (cutC c s).2), .bool b])) ∧ Keeps [] w w' := by
 obtain ⟨m, hm⟩ := hE.mlen
 refine (Tryz.strings_Cut (bs s) ⟨#[c]⟩ m w (by rw [bs_size]; omega) hm).mono ?_
 rintro e w' ⟨rfl, n, rfl⟩
 have h1 := cutC_eq c s
 refine ⟨⟨(Lib.cut s [c]).2.2, ?_⟩, (Keeps.refl _ _).drewN _⟩
 rw [← h1.1, ← h1.2]
 rfl
end Go.Proofs.YtpfkjejknlkkoaaGreatDoor
namespace Go.Proofs.YtpfkjejknlkkoaaGreatDoor
open Go.RowKit
attribute [local go_sem] bs_size bs_extract bs_append bs_toList
def kixI (k : Bs) : Int := if k = [] then 0 else if k = [105, 110, 116] then 1 else if k = [116, 101, 120, 116] then 2 else -1
theorem kixI_max (k : Bs) : max (kixI k) 0 = (kix k : Int) := by
 unfold kixI kix
 by_cases h0 : k = []
 ·subst h0; rfl
 ·rw [if_neg h0]
  split
  ·rfl
  ·split <;> rfl
theorem kixI_at {k : Bs} (j : Nat) (hj : j < 3) (h : k = kindW j) : kixI k = (j : Int) := by
 subst h
 match j, hj with
 | 0, _ => rfl
 | 1, _ => rfl
 | 2, _ => rfl
theorem kixI_none {k : Bs} (h : ∀ j, j < 3 → (k == kindW j) = false) : kixI k = -1 := by
 have h0 : ¬ k = [] := fun e => by have := h 0 (by omega); rw [e] at this; exact absurd this (by decide)
 have h1 : ¬ k = [105, 110, 116] := fun e => by have := h 1 (by omega); rw [e] at this; exact absurd this (by decide)
 have h2 : ¬ k = [116, 101, 120, 116] := fun e => by have := h 2 (by omega); rw [e] at this; exact absurd this (by decide)
 unfold kixI
 rw [if_neg h0, if_neg h1, if_neg h2]
set_option maxHeartbeats 1000000 in
theorem index_kinds (k : Bs) (w : World) (hc : ∀ j, j < 3 → w.cell? ⟨0, j, none⟩ = some (.string (bs (kindW j)))) :
  Calls Tryz.prog 39 #[.slice (some ⟨0, 0, none⟩) 3 3, .string (bs k)] w fun e w' => e = .returned (.int .i64 (kixI k)) ∧ w = w' := by
 have HR := Lib.hid hc
 clear hc
 go_enter Tryz.func39, Tryz.ntmps39
 go_wp2
 go_loop [8] (fun i => ∃ n : Nat, n ≤ 3 ∧ i = .int .i64 n ∧ Hid (∀ j, j < n → (k == kindW j) = false)) (fun i => 3 - (intOf i).toNat)
 case atStart => exact ⟨0, Nat.zero_le _, rfl, fun j hj => absurd hj (by omega)⟩
 case round =>
  obtain ⟨n, hn, rfl, hno⟩ := hrel
  by_cases hlt : n < 3
  ·have d1 := HR.out n hlt
   have hlt' : (n : Int) < 3 := by omega
   cases hp : (k == kindW n) with
   | true =>
    have hfin : kixI k = (n : Int) := kixI_at n hlt (by simpa using hp)
    have HP := Lib.hid hfin
    generalize kindW n = kw at *
    clear hfin
    go_wp2
    go_ret
    exact ⟨by rw [HP.out]; rfl, rfl⟩
   | false =>
    have hno' : Hid (∀ j, j < n + 1 → (k == kindW j) = false) := fun j hj => by
     by_cases h : j < n
     ·exact hno j h
     ·obtain rfl : j = n := by omega
      exact hp
    generalize kindW n = kw at *
    go_wp2
    go_round
    case rel => exact ⟨n + 1, by omega, by go_num, hno'⟩
    case measure => simp [intOf]; omega
  ·obtain rfl : n = 3 := by omega
   have hfin : Hid (kixI k = -1) := kixI_none fun j hj => hno j hj
   go_wp2
   go_ret
   exact ⟨by rw [hfin.out]; rfl, rfl⟩
theorem index_kinds' (k : Bs) (w : World) (hE : TEnv w) :
  Calls Tryz.prog 39 #[.slice (some ⟨0, 0, none⟩) 3 3, .string (bs k)] w fun e w' => e = .returned (.int .i64 (kixI k)) ∧ Keeps [] w w' := by
 refine (index_kinds k w hE.kinds).mono ?_
 rintro e w' ⟨rfl, rfl⟩
 exact ⟨rfl, Keeps.refl _ _⟩
end Go.Proofs.YtpfkjejknlkkoaaGreatDoor
namespace Go.Proofs.YtpfkjejknlkkoaaGreatDoor
open Go.RowKit
theorem slice_from1 (b o N : Nat) (h : 1 ≤ N) (hN : N ≤ 1000001) : ∃ A, (∀ W, (Instr.slice 30 (.slice (some ⟨b, o, none⟩) N N) (some (.int .i64 1)) none none).run Tryz.prog W = .ok (.slice A (N - 1) (N - 1)) W) ∧ (1 < N → A = some ⟨b, o + 1, none⟩) := by
 have hT := Tryz.underlying30
 have hl1 : (1 : Int) ≤ (N : Int) := by omega
 by_cases h1 : N = 1
 ·subst h1
  refine ⟨some ⟨b, o, none⟩, fun W => ?_, fun h => absurd h (by omega)⟩
  go_simp
 ·refine ⟨some ⟨b, o + 1, none⟩, fun W => ?_, fun _ => rfl⟩
  go_simp
end Go.Proofs.YtpfkjejknlkkoaaGreatDoor
