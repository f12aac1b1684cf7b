/- StoreOnce: the card. Whatever the texts, the law returns true, and nothing that was there turns. No condition. -/
import Derived.Test.YtjoolemhcpcnoaaDoorOnceLaw
import Derived.Test.YtjoolemhcpcnoaaDoorCards
import Derived.Test.YtjoolemhcpcnoaaDoorTie
namespace Go.Proofs.YtjoolemhcpcnoaaDoor
open Go
theorem Once.proved : Rows.StoreOnceCardSaid :=
  Claim7.holds_tied_plain_at .later [] _ _ _ _
    Once.said (fun _ h => by cases h) (by kernel_rfl) (fun _ h => by cases h) storeOnce_row_tie rfl ⟨rfl, rfl⟩ (by kernel_rfl) rfl
    (fun f fn hf hfn => by
      obtain rfl : f = 5 := Option.some.inj ((show Tryd.prog.funcNamed "foreman/foremankeep.StoreOnce" = some 5 by kernel_rfl).symm.trans hf) |>.symm
      obtain rfl : fn = Tryd.f5 := (Option.some.inj (Tryd.func5.symm.trans hfn)).symm
      exact ⟨by kernel_rfl, by
        rw [Tryd.params5]
        intro j t ht
        rcases j with _ | _ | j
        · obtain rfl : 22 = t := by simpa using ht
          kernel_rfl
        · obtain rfl : 9 = t := by simpa using ht
          kernel_rfl
        · simp at ht⟩)
    (by kernel_rfl)
#print axioms Once.proved
end Go.Proofs.YtjoolemhcpcnoaaDoor
