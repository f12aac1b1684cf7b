/- StoreHolds: the card. Whatever the texts, the law returns true, and nothing that was there turns. No condition. -/
import Derived.Test.YtjoolemhcpcnoaaDoorHoldsLaw
import Derived.Test.YtjoolemhcpcnoaaDoorCards
import Derived.Test.YtjoolemhcpcnoaaDoorTie
namespace Go.Proofs.YtjoolemhcpcnoaaDoor
open Go
theorem Holds.proved : Rows.StoreHoldsCardSaid :=
  Claim7.holds_tied_plain_at .later [] _ _ _ _
    Holds.said (fun _ h => by cases h) (by kernel_rfl) (fun _ h => by cases h) storeHolds_row_tie rfl ⟨rfl, rfl⟩ (by kernel_rfl) rfl
    (fun f fn hf hfn => by
      obtain rfl : f = 7 := Option.some.inj ((show Tryd.prog.funcNamed "foreman/foremankeep.StoreHolds" = some 7 by kernel_rfl).symm.trans hf) |>.symm
      obtain rfl : fn = Tryd.f7 := (Option.some.inj (Tryd.func7.symm.trans hfn)).symm
      exact ⟨by kernel_rfl, by
        rw [Tryd.params7]
        intro j t ht
        rcases j with _ | _ | _ | j
        · obtain rfl : 22 = t := by simpa using ht
          kernel_rfl
        · obtain rfl : 3 = t := by simpa using ht
          kernel_rfl
        · obtain rfl : 24 = t := by simpa using ht
          kernel_rfl
        · simp at ht⟩)
    (by kernel_rfl)
#print axioms Holds.proved
end Go.Proofs.YtjoolemhcpcnoaaDoor
