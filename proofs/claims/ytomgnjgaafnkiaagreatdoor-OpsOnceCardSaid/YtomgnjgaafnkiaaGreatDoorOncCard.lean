/- OpsOnce: the card. Whatever the table, the law returns true, and nothing that was there turns. No condition but what the row lists. -/
import Derived.Test.YtomgnjgaafnkiaaGreatDoorOncM23
import Derived.Test.YtomgnjgaafnkiaaGreatDoorCards
import Derived.Test.YtomgnjgaafnkiaaGreatDoorTie
namespace Go.Proofs.YtomgnjgaafnkiaaGreatDoor
open Go
theorem Oon.proved : Rows.OpsOnceCardSaid :=
  Claim7.holds_tied_plain_at .later [] _ _ _ _
    Oon.said (fun _ h => by cases h) (by kernel_rfl) (fun _ h => by cases h) opsOnce_row_tie rfl ⟨rfl, rfl⟩ (by kernel_rfl) rfl
    (fun f fn hf hfn => by
      obtain rfl : f = 6 := Option.some.inj ((show Tryz.prog.funcNamed "foreman/foremankeep.OpsOnce" = some 6 by kernel_rfl).symm.trans hf) |>.symm
      obtain rfl : fn = Tryz.f6 := (Option.some.inj (Tryz.func6.symm.trans hfn)).symm
      exact ⟨by kernel_rfl, by
        rw [Tryz.params6]
        intro j t ht
        rcases j with _ | j
        · obtain rfl : 25 = t := by simpa using ht
          kernel_rfl
        · simp at ht⟩)
    (by kernel_rfl)
#print axioms Oon.proved
end Go.Proofs.YtomgnjgaafnkiaaGreatDoor
