/- slices.Index over kinds[:]. -/
import Derived.Test.YtodjaomghmcoiaaGreatDoorSplit
namespace Go.Proofs.YtodjaomghmcoiaaGreatDoor
open Go.RowKit
attribute [local go_sem] bs_size bs_extract bs_append bs_toList
def kixI (k : Bs) : Int := if k = [] then 0 else if k = [105, 110, 116] then 1 else if k = [116, 101, 120, 116] then 2 else -1
theorem kixI_max (k : Bs) : max (kixI k) 0 = (kix k : Int) := by
  unfold kixI kix
  by_cases h0 : k = []
  · subst h0; rfl
  · rw [if_neg h0]
    split
    · rfl
    · split <;> rfl
theorem kixI_at {k : Bs} (j : Nat) (hj : j < 3) (h : k = kindW j) : kixI k = (j : Int) := by
  subst h
  match j, hj with
  | 0, _ => rfl
  | 1, _ => rfl
  | 2, _ => rfl
theorem kixI_none {k : Bs} (h : ∀ j, j < 3 → (k == kindW j) = false) : kixI k = -1 := by
  have h0 : ¬ k = [] := fun e => by have := h 0 (by omega); rw [e] at this; exact absurd this (by decide)
  have h1 : ¬ k = [105, 110, 116] := fun e => by have := h 1 (by omega); rw [e] at this; exact absurd this (by decide)
  have h2 : ¬ k = [116, 101, 120, 116] := fun e => by have := h 2 (by omega); rw [e] at this; exact absurd this (by decide)
  unfold kixI
  rw [if_neg h0, if_neg h1, if_neg h2]
set_option maxHeartbeats 1000000 in
theorem index_kinds (k : Bs) (w : World) (hc : ∀ j, j < 3 → w.cell? ⟨0, j, none⟩ = some (.string (bs (kindW j)))) :
    Calls Tryz.prog 43 #[.slice (some ⟨0, 0, none⟩) 3 3, .string (bs k)] w fun e w' => e = .returned (.int .i64 (kixI k)) ∧ w = w' := by
  have HR := Lib.hid hc
  clear hc
  go_enter Tryz.func43, Tryz.ntmps43
  go_wp2
  go_loop [8] (fun i => ∃ n : Nat, n ≤ 3 ∧ i = .int .i64 n ∧ Hid (∀ j, j < n → (k == kindW j) = false)) (fun i => 3 - (intOf i).toNat)
  case atStart => exact ⟨0, Nat.zero_le _, rfl, fun j hj => absurd hj (by omega)⟩
  case round =>
    obtain ⟨n, hn, rfl, hno⟩ := hrel
    by_cases hlt : n < 3
    · have d1 := HR.out n hlt
      have hlt' : (n : Int) < 3 := by omega
      cases hp : (k == kindW n) with
      | true =>
        have hfin : kixI k = (n : Int) := kixI_at n hlt (by simpa using hp)
        have HP := Lib.hid hfin
        generalize kindW n = kw at *
        clear hfin
        go_wp2
        go_ret
        exact ⟨by rw [HP.out]; rfl, rfl⟩
      | false =>
        have hno' : Hid (∀ j, j < n + 1 → (k == kindW j) = false) := fun j hj => by
          by_cases h : j < n
          · exact hno j h
          · obtain rfl : j = n := by omega
            exact hp
        generalize kindW n = kw at *
        go_wp2
        go_round
        case rel => exact ⟨n + 1, by omega, by go_num, hno'⟩
        case measure => simp [intOf]; omega
    · obtain rfl : n = 3 := by omega
      have hfin : Hid (kixI k = -1) := kixI_none fun j hj => hno j hj
      go_wp2
      go_ret
      exact ⟨by rw [hfin.out]; rfl, rfl⟩
theorem index_kinds' (k : Bs) (w : World) (hE : TEnv w) :
    Calls Tryz.prog 43 #[.slice (some ⟨0, 0, none⟩) 3 3, .string (bs k)] w fun e w' => e = .returned (.int .i64 (kixI k)) ∧ Keeps [] w w' := by
  refine (index_kinds k w hE.kinds).mono ?_
  rintro e w' ⟨rfl, rfl⟩
  exact ⟨rfl, Keeps.refl _ _⟩
end Go.Proofs.YtodjaomghmcoiaaGreatDoor
