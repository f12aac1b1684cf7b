/- Columns and values compared as wholes. -/
import Derived.Test.YtodjaomghmcoiaaGreatDoorTab
namespace Go.Proofs.YtodjaomghmcoiaaGreatDoor
open Go.RowKit
attribute [local go_sem] bs_size bs_extract bs_append bs_toList
theorem bytes_beq (a b : Bs) : ((bs a).toList == (bs b).toList) = decide (a = b) := by
  rw [bs_toList, bs_toList, Bool.eq_iff_iff, beq_iff_eq, decide_eq_true_iff]
theorem cNeq (a b : Cl) (W : World) : (binOp .neq 63 (.agg #[.string (bs a.name), .int .i64 a.kind]) (.agg #[.string (bs b.name), .int .i64 b.kind])).run Tryz.prog W = .ok (.bool (!decide (a = b))) W := by
  have hd : decide (a = b) = (decide (a.name = b.name) && decide (a.kind = b.kind)) := by
    obtain ⟨n, k⟩ := a
    obtain ⟨n2, k2⟩ := b
    rw [Bool.eq_iff_iff]
    simp
  rw [hd]
  simp [go_sem, bytes_beq]
  by_cases h1 : a.name = b.name <;> by_cases h2 : a.kind = b.kind <;> simp [h1, h2, go_sem]
theorem vNeq (a b : Vl) (W : World) : (binOp .neq 41 (.agg #[.int .i64 a.kind, .int .i64 a.num, .string (bs a.word)]) (.agg #[.int .i64 b.kind, .int .i64 b.num, .string (bs b.word)])).run Tryz.prog W = .ok (.bool (!decide (a = b))) W := by
  have hd : decide (a = b) = (decide (a.kind = b.kind) && decide (a.num = b.num) && decide (a.word = b.word)) := by
    obtain ⟨k, n, s⟩ := a
    obtain ⟨k2, n2, s2⟩ := b
    rw [Bool.eq_iff_iff]
    simp [and_assoc]
  rw [hd]
  simp [go_sem, bytes_beq]
  by_cases h1 : a.kind = b.kind <;> by_cases h2 : a.num = b.num <;> by_cases h3 : a.word = b.word <;> simp [h1, h2, h3, go_sem]
end Go.Proofs.YtodjaomghmcoiaaGreatDoor
