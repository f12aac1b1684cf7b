/- TableCuts: the card. Whatever the table and the place, the law returns true, and nothing that was there turns. No condition but what the row lists. -/
import Derived.Test.YtodjaomghmcoiaaGreatDoorCutsLaw
import Derived.Test.YtodjaomghmcoiaaGreatDoorCards
import Derived.Test.YtodjaomghmcoiaaGreatDoorTie
namespace Go.Proofs.YtodjaomghmcoiaaGreatDoor
open Go
theorem Cts.proved : Rows.TableCutsCardSaid :=
  Claim7.holds_tied_plain_at .later [] _ _ _ _
    Cts.said (fun _ h => by cases h) (by kernel_rfl) (fun _ h => by cases h) tableCuts_row_tie rfl ⟨rfl, rfl⟩ (by kernel_rfl) rfl
    (fun f fn hf hfn => by
      obtain rfl : f = 4 := Option.some.inj ((show Tryz.prog.funcNamed "foreman/foremankeep.TableCuts" = some 4 by kernel_rfl).symm.trans hf) |>.symm
      obtain rfl : fn = Tryz.f4 := (Option.some.inj (Tryz.func4.symm.trans hfn)).symm
      exact ⟨by kernel_rfl, by
        rw [Tryz.params4]
        intro j t ht
        rcases j with _ | _ | j
        · obtain rfl : 25 = t := by simpa using ht
          kernel_rfl
        · obtain rfl : 3 = t := by simpa using ht
          kernel_rfl
        · simp at ht⟩)
    (by kernel_rfl)
#print axioms Cts.proved
end Go.Proofs.YtodjaomghmcoiaaGreatDoor
