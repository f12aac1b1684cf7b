/- OpsSets: the card. Whatever the table, the name and the number, the law returns true, and nothing that was there turns. No condition but what the row lists. -/
import Derived.Test.YtomgnjgaafnkiaaGreatDoorOncM25
import Derived.Test.YtomgnjgaafnkiaaGreatDoorCards
import Derived.Test.YtomgnjgaafnkiaaGreatDoorTie
namespace Go.Proofs.YtomgnjgaafnkiaaGreatDoor
open Go
theorem Ose.proved : Rows.OpsSetsCardSaid :=
  Claim7.holds_tied_plain_at .later [] _ _ _ _
    Ose.said (fun _ h => by cases h) (by kernel_rfl) (fun _ h => by cases h) opsSets_row_tie rfl ⟨rfl, rfl⟩ (by kernel_rfl) rfl
    (fun f fn hf hfn => by
      obtain rfl : f = 8 := Option.some.inj ((show Tryz.prog.funcNamed "foreman/foremankeep.OpsSets" = some 8 by kernel_rfl).symm.trans hf) |>.symm
      obtain rfl : fn = Tryz.f8 := (Option.some.inj (Tryz.func8.symm.trans hfn)).symm
      exact ⟨by kernel_rfl, by
        rw [Tryz.params8]
        intro j t ht
        rcases j with _ | _ | _ | j
        · obtain rfl : 25 = t := by simpa using ht
          kernel_rfl
        · obtain rfl : 9 = t := by simpa using ht
          kernel_rfl
        · obtain rfl : 3 = t := by simpa using ht
          kernel_rfl
        · simp at ht⟩)
    (by kernel_rfl)
#print axioms Ose.proved
end Go.Proofs.YtomgnjgaafnkiaaGreatDoor
