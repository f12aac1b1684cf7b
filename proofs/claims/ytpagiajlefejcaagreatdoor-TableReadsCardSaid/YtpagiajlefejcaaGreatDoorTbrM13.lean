/- slices.Index over kinds[:]. lines[1:]. A table in memory; table.Right of it. -/
import Derived.Test.YtpagiajlefejcaaGreatDoorTbrM12
import Derived.Test.YtpagiajlefejcaaGreatDoorTbrM9
import Derived.Test.YtpagiajlefejcaaGreatDoorTbrM8
set_option linter.unusedSimpArgs false
set_option linter.unusedVariables false
namespace Go.Proofs.YtpagiajlefejcaaGreatDoor
open Go.RowKit
attribute [local go_sem] bs_size bs_extract bs_append bs_toList
def kixI (k : Bs) : Int := if k = [] then 0 else if k = [105, 110, 116] then 1 else if k = [116, 101, 120, 116] then 2 else -1
theorem kixI_max (k : Bs) : max (kixI k) 0 = (kix k : Int) := by
 unfold kixI kix
 by_cases h0 : k = []
 ·subst h0; rfl
 ·rw [if_neg h0]
  split
  ·rfl
  ·split <;> rfl
theorem kixI_at {k : Bs} (j : Nat) (hj : j < 3) (h : k = kindW j) : kixI k = (j : Int) := by
 subst h
 match j, hj with
 | 0, _ => rfl
 | 1, _ => rfl
 | 2, _ => rfl
theorem kixI_none {k : Bs} (h : ∀ j, j < 3 → (k == kindW j) = false) : kixI k = -1 := by
 have h0 : ¬ k = [] := fun e => by have := h 0 (by omega); rw [e] at this; exact absurd this (by decide)
 have h1 : ¬ k = [105, 110, 116] := fun e => by have := h 1 (by omega); rw [e] at this; exact absurd this (by decide)
 have h2 : ¬ k = [116, 101, 120, 116] := fun e => by have := h 2 (by omega); rw [e] at this; exact absurd this (by decide)
 unfold kixI
 rw [if_neg h0, if_neg h1, if_neg h2]
set_option maxHeartbeats 1000000 in
theorem index_kinds (k : Bs) (w : World) (hc : ∀ j, j < 3 → w.cell? ⟨1, j, none⟩ = some (.string (bs (kindW j)))) :
  Calls Tryz.prog 70 #[.slice (some ⟨1, 0, none⟩) 3 3, .string (bs k)] w fun e w' => e = .returned (.int .i64 (kixI k)) ∧ w = w' := by
 have HR := Lib.hid hc
 clear hc
 go_enter Tryz.func70, Tryz.ntmps70
 go_wp2
 go_loop [8] (fun i => ∃ n : Nat, n ≤ 3 ∧ i = .int .i64 n ∧ Hid (∀ j, j < n → (k == kindW j) = false)) (fun i => 3 - (intOf i).toNat)
 case atStart => exact ⟨0, Nat.zero_le _, rfl, fun j hj => absurd hj (by omega)⟩
 case round =>
  obtain ⟨n, hn, rfl, hno⟩ := hrel
  by_cases hlt : n < 3
  ·have d1 := HR.out n hlt
   have hlt' : (n : Int) < 3 := by omega
   cases hp : (k == kindW n) with
   | true =>
    have hfin : kixI k = (n : Int) := kixI_at n hlt (by simpa using hp)
    have HP := Lib.hid hfin
    generalize kindW n = kw at *
    clear hfin
    go_wp2
    go_ret
    exact ⟨by rw [HP.out]; rfl, rfl⟩
   | false =>
    have hno' : Hid (∀ j, j < n + 1 → (k == kindW j) = false) := fun j hj => by
     by_cases h : j < n
     ·exact hno j h
     ·obtain rfl : j = n := by omega
      exact hp
    generalize kindW n = kw at *
    go_wp2
    go_round
    case rel => exact ⟨n + 1, by omega, by go_num, hno'⟩
    case measure => simp [intOf]; omega
  ·obtain rfl : n = 3 := by omega
   have hfin : Hid (kixI k = -1) := kixI_none fun j hj => hno j hj
   go_wp2
   go_ret
   exact ⟨by rw [hfin.out]; rfl, rfl⟩
theorem index_kinds' (k : Bs) (w : World) (hE : TEnv w) :
  Calls Tryz.prog 70 #[.slice (some ⟨1, 0, none⟩) 3 3, .string (bs k)] w fun e w' => e = .returned (.int .i64 (kixI k)) ∧ Keeps [] w w' := by
 refine (index_kinds k w hE.kinds).mono ?_
 rintro e w' ⟨rfl, rfl⟩
 exact ⟨rfl, Keeps.refl _ _⟩
end Go.Proofs.YtpagiajlefejcaaGreatDoor
namespace Go.Proofs.YtpagiajlefejcaaGreatDoor
open Go.RowKit
theorem slice_from1 (b o N : Nat) (h : 1 ≤ N) (hN : N ≤ 1000001) : ∃ A, (∀ W, (Instr.slice 55 (.slice (some ⟨b, o, none⟩) N N) (some (.int .i64 1)) none none).run Tryz.prog W = .ok (.slice A (N - 1) (N - 1)) W) ∧ (1 < N → A = some ⟨b, o + 1, none⟩) := by
 have hT := Tryz.underlying55
 have hl1 : (1 : Int) ≤ (N : Int) := by omega
 by_cases h1 : N = 1
 ·subst h1
  refine ⟨some ⟨b, o, none⟩, fun W => ?_, fun h => absurd h (by omega)⟩
  go_simp
 ·refine ⟨some ⟨b, o + 1, none⟩, fun W => ?_, fun _ => rfl⟩
  go_simp
end Go.Proofs.YtpagiajlefejcaaGreatDoor
namespace Go.Proofs.YtpagiajlefejcaaGreatDoor
open Go.RowKit
attribute [local go_sem] bs_size bs_extract bs_append bs_toList
structure TabIn (w : World) (t : Tb) (A B : Option Addr) (c d : Nat) : Prop where
 cols : Rd w [] 2 A t.cols.length (csCells t.cols)
 cc : t.cols.length ≤ c
 rows : RdRows w [] B t.rows
 cd : t.rows.length ≤ d
 names : ∀ x ∈ t.cols, x.name.length ≤ 1000000000
 ln : t.cols.length ≤ 4294967296
 lm : t.rows.length ≤ 4294967296
 lr : ∀ r ∈ t.rows, r.length ≤ 4294967296
theorem TabIn.quiet {w w' : World} {t : Tb} {A B : Option Addr} {c d : Nat} (h : TabIn w t A B c d) (hk : Keeps [] w w') : TabIn w' t A B c d :=
 ⟨h.cols.keep hk, h.cc, h.rows.keep hk, h.cd, h.names, h.ln, h.lm, h.lr⟩
theorem TabIn.right {w : World} {t : Tb} {A B : Option Addr} {c d : Nat} (h : TabIn w t A B c d) :
  Calls Tryz.prog 12 #[tAgg A t.cols.length c B t.rows.length d] w fun e w' => e = .returned (.bool (rightB t)) ∧ Keeps [] w w' :=
 right_any t A B c d w h.cols h.cc h.rows h.names h.ln h.lm h.lr
end Go.Proofs.YtpagiajlefejcaaGreatDoor
