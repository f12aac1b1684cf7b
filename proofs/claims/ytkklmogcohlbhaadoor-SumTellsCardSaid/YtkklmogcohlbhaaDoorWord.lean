/- Words of 32 bits, as the model reckons them: turn. -/
import Derived.Test.YtkklmogcohlbhaaDoorBase
import Derived.Test.YtkklmogcohlbhaaDoorProg
import Derived.IntWalk
import Derived.WalkKit
import Derived.Laws.Entries
namespace Go.Proofs.YtkklmogcohlbhaaDoor
open Go.RowKit
/-- A turn of bits to the right. -/
def rotI (x : Int) (n : Nat) : Int := bits .or .u32 (x / 2 ^ n) (x * 2 ^ (32 - n) % 4294967296)
theorem turn_any (x : Int) (k : Int) (h0 : 0 ≤ k) (h1 : k ≤ 32) (w : World) :
    Calls Tryd.prog 13 #[.int .u32 x, .int .i64 k] w fun e w' => e = .returned (.int .u32 (rotI x k.toNat)) ∧ ∃ m, w' = w.drewN m := by
  obtain ⟨n, rfl⟩ := Int.eq_ofNat_of_zero_le h0
  obtain ⟨m, hm⟩ : ∃ m, n + m = 32 := ⟨32 - n, by omega⟩
  have h1 : (32 : Int) - (n : Int) = (m : Int) := by omega
  have h2 : IntKind.i64.wrap (m : Int) = (m : Int) := IntWalk.i64_in _ (by omega)
  have h3 : ¬ (n : Int) < 0 := by omega
  have h4 : ¬ (m : Int) < 0 := by omega
  have hr : rotI x (n : Int).toNat = bits .or .u32 (x / 2 ^ n) (x * 2 ^ m % 4294967296) := by unfold rotI; rw [Int.toNat_natCast, show 32 - n = m by omega]
  have HR := Lib.hid hr
  have hm' := Lib.hid hm
  clear hm hr
  go_enter Tryd.func13, Tryd.ntmps13
  go_wp2
  go_region
  all_goals go_wp2
  all_goals go_ret
  exact ⟨by rw [HR.out]; rfl, 1, rfl⟩
end Go.Proofs.YtkklmogcohlbhaaDoor
