/- FlowBlanks: the card. With other blanks and line feeds between its tokens a flow is written just so. No condition but what the row lists. -/
import Derived.Test.YtdmboaoeholkpaaDoorFlwM22
import Derived.Test.YtdmboaoeholkpaaDoorCards
import Derived.Test.YtdmboaoeholkpaaDoorTie
namespace Go.Proofs.YtdmboaoeholkpaaDoor
open Go
theorem Fbn.proved : Rows.FlowBlanksCardSaid :=
  Claim7.holds_tied_plain_at .later [] _ _ _ _
    Fbn.said (fun _ h => by cases h) (by kernel_rfl) (fun _ h => by cases h) flowBlanks_row_tie rfl ⟨rfl, rfl⟩ (by kernel_rfl) rfl
    (fun f fn hf hfn => by
      obtain rfl : f = 4 := Option.some.inj ((show Tryd.prog.funcNamed "foreman/foremankeep.FlowBlanks" = some 4 by kernel_rfl).symm.trans hf) |>.symm
      obtain rfl : fn = Tryd.f4 := (Option.some.inj (Tryd.func4.symm.trans hfn)).symm
      exact ⟨by kernel_rfl, by
        rw [Tryd.params4]
        intro j t ht
        rcases j with _ | _ | j
        · obtain rfl : 9 = t := by simpa using ht
          kernel_rfl
        · obtain rfl : 34 = t := by simpa using ht
          kernel_rfl
        · simp at ht⟩)
    (by kernel_rfl)
#print axioms Fbn.proved
end Go.Proofs.YtdmboaoeholkpaaDoor
