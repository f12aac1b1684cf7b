/- FlowBack: the card. What a flow is written as is that flow, and is written just so. No condition but what the row lists. -/
import Derived.Test.YtdmboaoeholkpaaDoorFlwM21
import Derived.Test.YtdmboaoeholkpaaDoorCards
import Derived.Test.YtdmboaoeholkpaaDoorTie
namespace Go.Proofs.YtdmboaoeholkpaaDoor
open Go
theorem Fbk.proved : Rows.FlowBackCardSaid :=
  Claim7.holds_tied_plain_at .later [] _ _ _ _
    Fbk.said (fun _ h => by cases h) (by kernel_rfl) (fun _ h => by cases h) flowBack_row_tie rfl ⟨rfl, rfl⟩ (by kernel_rfl) rfl
    (fun f fn hf hfn => by
      obtain rfl : f = 3 := Option.some.inj ((show Tryd.prog.funcNamed "foreman/foremankeep.FlowBack" = some 3 by kernel_rfl).symm.trans hf) |>.symm
      obtain rfl : fn = Tryd.f3 := (Option.some.inj (Tryd.func3.symm.trans hfn)).symm
      exact ⟨by kernel_rfl, by
        rw [Tryd.params3]
        intro j t ht
        rcases j with _ | j
        · obtain rfl : 9 = t := by simpa using ht
          kernel_rfl
        · simp at ht⟩)
    (by kernel_rfl)
#print axioms Fbk.proved
end Go.Proofs.YtdmboaoeholkpaaDoor
