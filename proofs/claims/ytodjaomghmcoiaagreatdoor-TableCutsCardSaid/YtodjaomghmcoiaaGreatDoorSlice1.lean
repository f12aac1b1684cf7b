/- lines[1:]. -/
import Derived.Test.YtodjaomghmcoiaaGreatDoorStrs
namespace Go.Proofs.YtodjaomghmcoiaaGreatDoor
open Go.RowKit
theorem slice_from1 (b o N : Nat) (h : 1 ≤ N) (hN : N ≤ 1000001) : ∃ A, (∀ W, (Instr.slice 69 (.slice (some ⟨b, o, none⟩) N N) (some (.int .i64 1)) none none).run Tryz.prog W = .ok (.slice A (N - 1) (N - 1)) W) ∧ (1 < N → A = some ⟨b, o + 1, none⟩) := by
  have hT := Tryz.underlying69
  have hl1 : (1 : Int) ≤ (N : Int) := by omega
  by_cases h1 : N = 1
  · subst h1
    refine ⟨some ⟨b, o, none⟩, fun W => ?_, fun h => absurd h (by omega)⟩
    go_simp
  · refine ⟨some ⟨b, o + 1, none⟩, fun W => ?_, fun _ => rfl⟩
    go_simp
end Go.Proofs.YtodjaomghmcoiaaGreatDoor
