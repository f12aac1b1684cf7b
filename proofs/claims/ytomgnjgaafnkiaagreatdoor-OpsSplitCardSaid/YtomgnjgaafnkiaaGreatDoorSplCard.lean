/- OpsSplit: the card. Whatever the job and the table, the law returns true, and nothing that was there turns. No condition but what the row lists. -/
import Derived.Test.YtomgnjgaafnkiaaGreatDoorSplM20
import Derived.Test.YtomgnjgaafnkiaaGreatDoorCards
import Derived.Test.YtomgnjgaafnkiaaGreatDoorTie
namespace Go.Proofs.YtomgnjgaafnkiaaGreatDoor
open Go
theorem Osp.proved : Rows.OpsSplitCardSaid :=
  Claim7.holds_tied_plain_at .later [] _ _ _ _
    Osp.said (fun _ h => by cases h) (by kernel_rfl) (fun _ h => by cases h) opsSplit_row_tie rfl ⟨rfl, rfl⟩ (by kernel_rfl) rfl
    (fun f fn hf hfn => by
      obtain rfl : f = 4 := Option.some.inj ((show Tryz.prog.funcNamed "foreman/foremankeep.OpsSplit" = some 4 by kernel_rfl).symm.trans hf) |>.symm
      obtain rfl : fn = Tryz.f4 := (Option.some.inj (Tryz.func4.symm.trans hfn)).symm
      exact ⟨by kernel_rfl, by
        rw [Tryz.params4]
        intro j t ht
        rcases j with _ | _ | j
        · obtain rfl : 36 = t := by simpa using ht
          kernel_rfl
        · obtain rfl : 25 = t := by simpa using ht
          kernel_rfl
        · simp at ht⟩)
    (by kernel_rfl)
#print axioms Osp.proved
end Go.Proofs.YtomgnjgaafnkiaaGreatDoor
