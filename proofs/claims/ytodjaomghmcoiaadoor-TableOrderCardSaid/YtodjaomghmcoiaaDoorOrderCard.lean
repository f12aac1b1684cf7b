/- TableOrder: the card. Of any three values that may be, the law returns true, and of others too; nothing that was there turns. No condition but what the row lists. -/
import Derived.Test.YtodjaomghmcoiaaDoorOrderLaw
import Derived.Test.YtodjaomghmcoiaaDoorCards
import Derived.Test.YtodjaomghmcoiaaDoorTie
namespace Go.Proofs.YtodjaomghmcoiaaDoor
open Go
theorem Ord.proved : Rows.TableOrderCardSaid :=
  Claim7.holds_tied_plain_at .later [] _ _ _ _
    Ord.said (fun _ h => by cases h) (by kernel_rfl) (fun _ h => by cases h) tableOrder_row_tie rfl ⟨rfl, rfl⟩ (by kernel_rfl) rfl
    (fun f fn hf hfn => by
      obtain rfl : f = 3 := Option.some.inj ((show Tryd.prog.funcNamed "foreman/foremankeep.TableOrder" = some 3 by kernel_rfl).symm.trans hf) |>.symm
      obtain rfl : fn = Tryd.f3 := (Option.some.inj (Tryd.func3.symm.trans hfn)).symm
      exact ⟨by kernel_rfl, by
        rw [Tryd.params3]
        intro j t ht
        rcases j with _ | _ | _ | j
        · obtain rfl : 23 = t := by simpa using ht
          kernel_rfl
        · obtain rfl : 23 = t := by simpa using ht
          kernel_rfl
        · obtain rfl : 23 = t := by simpa using ht
          kernel_rfl
        · simp at ht⟩)
    (by kernel_rfl)
#print axioms Ord.proved
end Go.Proofs.YtodjaomghmcoiaaDoor
