/- DiskSure: the card. What is sure stays, whatever is written behind a Sync, and lost. No condition but what the row lists. -/
import Derived.Test.YtelafmakgokhbaaDoorSureLaw
import Derived.Test.YtelafmakgokhbaaDoorCards
import Derived.Test.YtelafmakgokhbaaDoorTie
namespace Go.Proofs.YtelafmakgokhbaaDoor
open Go
theorem Sur.proved : Rows.DiskSureCardSaid :=
  Claim7.holds_tied_plain_at .later [] _ _ _ _
    Sur.said (fun _ h => by cases h) (by kernel_rfl) (fun _ h => by cases h) diskSure_row_tie rfl ⟨rfl, rfl⟩ (by kernel_rfl) rfl
    (fun f fn hf hfn => by
      obtain rfl : f = 3 := Option.some.inj ((show Tryd.prog.funcNamed "foreman/foremankeep.DiskSure" = some 3 by kernel_rfl).symm.trans hf) |>.symm
      obtain rfl : fn = Tryd.f3 := (Option.some.inj (Tryd.func3.symm.trans hfn)).symm
      exact ⟨by kernel_rfl, by
        rw [Tryd.params3]
        intro j t ht
        rcases j with _ | _ | _ | _ | j
        · obtain rfl : 22 = t := by simpa using ht
          kernel_rfl
        · obtain rfl : 22 = t := by simpa using ht
          kernel_rfl
        · obtain rfl : 23 = t := by simpa using ht
          kernel_rfl
        · obtain rfl : 24 = t := by simpa using ht
          kernel_rfl
        · simp at ht⟩)
    (by kernel_rfl)
#print axioms Sur.proved
end Go.Proofs.YtelafmakgokhbaaDoor
