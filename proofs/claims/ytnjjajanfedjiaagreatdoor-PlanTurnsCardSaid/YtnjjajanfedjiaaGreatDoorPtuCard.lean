/- PlanTurns: the card. This is a law of foreman/plan. No condition but what the row lists. -/
import Derived.Test.YtnjjajanfedjiaaGreatDoorPtuM39
import Derived.Test.YtnjjajanfedjiaaGreatDoorCards
import Derived.Test.YtnjjajanfedjiaaGreatDoorTie
set_option linter.unusedSimpArgs false
set_option linter.unusedVariables false
namespace Go.Proofs.YtnjjajanfedjiaaGreatDoor
open Go
theorem Ptu.proved : Rows.PlanTurnsCardSaid :=
  Claim7.holds_tied_plain_at .later [] _ _ _ _
    Ptu.said (fun _ h => by cases h) (by kernel_rfl) (fun _ h => by cases h) planTurns_row_tie rfl ⟨rfl, rfl⟩ (by kernel_rfl) rfl
    (fun f fn hf hfn => by
      obtain rfl : f = 5 := Option.some.inj ((show Tryz.prog.funcNamed "foreman/foremankeep.PlanTurns" = some 5 by kernel_rfl).symm.trans hf) |>.symm
      obtain rfl : fn = Tryz.f5 := (Option.some.inj (Tryz.func5.symm.trans hfn)).symm
      exact ⟨by kernel_rfl, by
        rw [Tryz.params5]
        intro j t ht
        rcases j with _ | _ | j
        · obtain rfl : 9 = t := by simpa using ht
          kernel_rfl
        · obtain rfl : 3 = t := by simpa using ht
          kernel_rfl
        · simp at ht⟩)
    (by kernel_rfl)
#print axioms Ptu.proved
end Go.Proofs.YtnjjajanfedjiaaGreatDoor
