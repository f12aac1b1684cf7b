/- PlanMore: the card. Who asks for nothing is in nobody's way. No condition but what the row lists. -/
import Derived.Test.YtnjjajanfedjiaaGreatDoorPmoM38
import Derived.Test.YtnjjajanfedjiaaGreatDoorCards
import Derived.Test.YtnjjajanfedjiaaGreatDoorTie
set_option linter.unusedSimpArgs false
set_option linter.unusedVariables false
namespace Go.Proofs.YtnjjajanfedjiaaGreatDoor
open Go
theorem Pmo.proved : Rows.PlanMoreCardSaid :=
  Claim7.holds_tied_plain_at .later [] _ _ _ _
    Pmo.said (fun _ h => by cases h) (by kernel_rfl) (fun _ h => by cases h) planMore_row_tie rfl ⟨rfl, rfl⟩ (by kernel_rfl) rfl
    (fun f fn hf hfn => by
      obtain rfl : f = 4 := Option.some.inj ((show Tryz.prog.funcNamed "foreman/foremankeep.PlanMore" = some 4 by kernel_rfl).symm.trans hf) |>.symm
      obtain rfl : fn = Tryz.f4 := (Option.some.inj (Tryz.func4.symm.trans hfn)).symm
      exact ⟨by kernel_rfl, by
        rw [Tryz.params4]
        intro j t ht
        rcases j with _ | _ | j
        · obtain rfl : 9 = t := by simpa using ht
          kernel_rfl
        · obtain rfl : 9 = t := by simpa using ht
          kernel_rfl
        · simp at ht⟩)
    (by kernel_rfl)
#print axioms Pmo.proved
end Go.Proofs.YtnjjajanfedjiaaGreatDoor
