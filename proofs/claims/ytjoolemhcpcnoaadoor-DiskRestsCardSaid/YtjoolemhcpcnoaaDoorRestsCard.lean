/- DiskRests: the card. -/
import Derived.Test.YtjoolemhcpcnoaaDoorRestsLaw
import Derived.Test.YtjoolemhcpcnoaaDoorCards
import Derived.Test.YtjoolemhcpcnoaaDoorTie
namespace Go.Proofs.YtjoolemhcpcnoaaDoor
open Go
theorem Rests.proved : Rows.DiskRestsCardSaid :=
  Claim7.holds_tied_plain_at .later [] _ _ _ _
    Rests.said (fun _ h => by cases h) (by kernel_rfl) (fun _ h => by cases h) diskRests_row_tie rfl ⟨rfl, rfl⟩ (by kernel_rfl) rfl
    (fun f fn hf hfn => by
      obtain rfl : f = 3 := Option.some.inj ((show Tryd.prog.funcNamed "foreman/foremankeep.DiskRests" = some 3 by kernel_rfl).symm.trans hf) |>.symm
      obtain rfl : fn = Tryd.f3 := (Option.some.inj (Tryd.func3.symm.trans hfn)).symm
      exact ⟨by kernel_rfl, by
        rw [Tryd.params3]
        intro j t ht
        rcases j with _ | _ | _ | j
        · obtain rfl : 22 = t := by simpa using ht
          kernel_rfl
        · obtain rfl : 23 = t := by simpa using ht
          kernel_rfl
        · obtain rfl : 24 = t := by simpa using ht
          kernel_rfl
        · simp at ht⟩)
    (by kernel_rfl)
#print axioms Rests.proved
end Go.Proofs.YtjoolemhcpcnoaaDoor
