/- TableBack: the card. Whatever the table and the text, the law returns true, and nothing that was there turns. No condition but what the row lists. -/
import Derived.Test.YtodjaomghmcoiaaGreatDoorBackLaw
import Derived.Test.YtodjaomghmcoiaaGreatDoorCards
import Derived.Test.YtodjaomghmcoiaaGreatDoorTie
namespace Go.Proofs.YtodjaomghmcoiaaGreatDoor
open Go
theorem Bck.proved : Rows.TableBackCardSaid :=
  Claim7.holds_tied_plain_at .later [] _ _ _ _
    Bck.said (fun _ h => by cases h) (by kernel_rfl) (fun _ h => by cases h) tableBack_row_tie rfl ⟨rfl, rfl⟩ (by kernel_rfl) rfl
    (fun f fn hf hfn => by
      obtain rfl : f = 3 := Option.some.inj ((show Tryz.prog.funcNamed "foreman/foremankeep.TableBack" = some 3 by kernel_rfl).symm.trans hf) |>.symm
      obtain rfl : fn = Tryz.f3 := (Option.some.inj (Tryz.func3.symm.trans hfn)).symm
      exact ⟨by kernel_rfl, by
        rw [Tryz.params3]
        intro j t ht
        rcases j with _ | _ | j
        · obtain rfl : 25 = t := by simpa using ht
          kernel_rfl
        · obtain rfl : 9 = t := by simpa using ht
          kernel_rfl
        · simp at ht⟩)
    (by kernel_rfl)
#print axioms Bck.proved
end Go.Proofs.YtodjaomghmcoiaaGreatDoor
