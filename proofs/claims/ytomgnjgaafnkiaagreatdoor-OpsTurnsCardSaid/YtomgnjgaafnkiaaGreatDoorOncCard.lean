/- OpsTurns: the card. Whatever the job, the tables and the names, the law returns true, and nothing that was there turns. No condition but what the row lists. -/
import Derived.Test.YtomgnjgaafnkiaaGreatDoorOncM28
import Derived.Test.YtomgnjgaafnkiaaGreatDoorCards
import Derived.Test.YtomgnjgaafnkiaaGreatDoorTie
namespace Go.Proofs.YtomgnjgaafnkiaaGreatDoor
open Go
theorem Otn.proved : Rows.OpsTurnsCardSaid :=
  Claim7.holds_tied_plain_at .later [] _ _ _ _
    Otn.said (fun _ h => by cases h) (by kernel_rfl) (fun _ h => by cases h) opsTurns_row_tie rfl ⟨rfl, rfl⟩ (by kernel_rfl) rfl
    (fun f fn hf hfn => by
      obtain rfl : f = 7 := Option.some.inj ((show Tryz.prog.funcNamed "foreman/foremankeep.OpsTurns" = some 7 by kernel_rfl).symm.trans hf) |>.symm
      obtain rfl : fn = Tryz.f7 := (Option.some.inj (Tryz.func7.symm.trans hfn)).symm
      exact ⟨by kernel_rfl, by
        rw [Tryz.params7]
        intro j t ht
        rcases j with _ | _ | _ | _ | j
        · obtain rfl : 36 = t := by simpa using ht
          kernel_rfl
        · obtain rfl : 25 = t := by simpa using ht
          kernel_rfl
        · obtain rfl : 25 = t := by simpa using ht
          kernel_rfl
        · obtain rfl : 30 = t := by simpa using ht
          kernel_rfl
        · simp at ht⟩)
    (by kernel_rfl)
#print axioms Otn.proved
end Go.Proofs.YtomgnjgaafnkiaaGreatDoor
