/- FlowReads: the card. Which flow any text is, or where it is none, and how it is written, is the document's. No condition but what the row lists. -/
import Derived.Test.YtnjjajanfedjiaaGreatDoorFrdM37
import Derived.Test.YtnjjajanfedjiaaGreatDoorCards
import Derived.Test.YtnjjajanfedjiaaGreatDoorTie
set_option linter.unusedSimpArgs false
set_option linter.unusedVariables false
namespace Go.Proofs.YtnjjajanfedjiaaGreatDoor
open Go
theorem Frd.proved : Rows.FlowReadsCardSaid :=
  Claim7.holds_tied_plain_at .later [] _ _ _ _
    Frd.said (fun _ h => by cases h) (by kernel_rfl) (fun _ h => by cases h) flowReads_row_tie rfl ⟨rfl, rfl⟩ (by kernel_rfl) rfl
    (fun f fn hf hfn => by
      obtain rfl : f = 3 := Option.some.inj ((show Tryz.prog.funcNamed "foreman/foremanlaw.FlowReads" = some 3 by kernel_rfl).symm.trans hf) |>.symm
      obtain rfl : fn = Tryz.f3 := (Option.some.inj (Tryz.func3.symm.trans hfn)).symm
      exact ⟨by kernel_rfl, by
        rw [Tryz.params3]
        intro j t ht
        rcases j with _ | j
        · obtain rfl : 9 = t := by simpa using ht
          kernel_rfl
        · simp at ht⟩)
    (by kernel_rfl)
#print axioms Frd.proved
end Go.Proofs.YtnjjajanfedjiaaGreatDoor
