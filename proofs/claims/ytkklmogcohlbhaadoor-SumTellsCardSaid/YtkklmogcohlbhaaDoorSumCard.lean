/- SumTells: the card. Whatever the text, the law returns true, and nothing that was there turns. No condition but what the row lists. -/
import Derived.Test.YtkklmogcohlbhaaDoorSumLaw
import Derived.Test.YtkklmogcohlbhaaDoorCards
import Derived.Test.YtkklmogcohlbhaaDoorTie
namespace Go.Proofs.YtkklmogcohlbhaaDoor
open Go
theorem Stl.proved : Rows.SumTellsCardSaid :=
  Claim7.holds_tied_plain_at .later [] _ _ _ _
    Stl.said (fun _ h => by cases h) (by kernel_rfl) (fun _ h => by cases h) sumTells_row_tie rfl ⟨rfl, rfl⟩ (by kernel_rfl) rfl
    (fun f fn hf hfn => by
      obtain rfl : f = 3 := Option.some.inj ((show Tryd.prog.funcNamed "foreman/foremanlaw.SumTells" = some 3 by kernel_rfl).symm.trans hf) |>.symm
      obtain rfl : fn = Tryd.f3 := (Option.some.inj (Tryd.func3.symm.trans hfn)).symm
      exact ⟨by kernel_rfl, by
        rw [Tryd.params3]
        intro j t ht
        rcases j with _ | j
        · obtain rfl : 9 = t := by simpa using ht
          kernel_rfl
        · simp at ht⟩)
    (by kernel_rfl)
#print axioms Stl.proved
end Go.Proofs.YtkklmogcohlbhaaDoor
