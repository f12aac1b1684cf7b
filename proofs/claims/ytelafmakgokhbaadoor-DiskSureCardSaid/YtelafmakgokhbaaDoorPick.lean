/- pick. -/
import Derived.Test.YtelafmakgokhbaaDoorDisk
namespace Go.Proofs.YtelafmakgokhbaaDoor
open Go.RowKit
/-- pick, as numbers. -/
def pickN (a : Int) (n : Nat) : Nat := (a.emod 18446744073709551616).toNat % n
theorem pickN_lt (a : Int) {n : Nat} (h : 0 < n) : pickN a n < n := Nat.mod_lt _ h
theorem pick_val (a : Int) (n : Nat) (h1 : n ≤ 4294967296) (h0 : 0 < n) : wrap64 ((IntKind.u64.wrap a).tmod (n : Int)) = (pickN a n : Int) := by
  have e : IntKind.u64.wrap a = ((a.emod 18446744073709551616).toNat : Int) := by
    rw [IntKind.wrap_u64]
    have := Int.emod_nonneg a (show (18446744073709551616 : Int) ≠ 0 by decide)
    exact (Int.toNat_of_nonneg this).symm
  have hl := pickN_lt a h0
  rw [e, Int.tmod_eq_emod_of_nonneg (Int.natCast_nonneg _)]
  show wrap64 ((pickN a n : Nat) : Int) = _
  exact IntWalk.wrap64_in _ ⟨by omega, by omega⟩

set_option maxRecDepth 100000 in
theorem pick_any (a : Int) (n : Nat) (h0 : 0 < n) (h1 : n ≤ 4294967296) (w : World) :
    Calls Tryd.prog 11 #[.int .i64 a, .int .i64 (n : Int)] w fun e w' => e = .returned (.int .i64 (pickN a n)) ∧ w = w' := by
  have hz : ¬ (n : Int) = 0 := by omega
  have hv := Lib.hid (pick_val a n h1 h0)
  go_enter Tryd.func11, Tryd.ntmps11
  go_wp2
  go_ret
  exact ⟨by rw [← hv.out]; rfl, rfl⟩
end Go.Proofs.YtelafmakgokhbaaDoor
