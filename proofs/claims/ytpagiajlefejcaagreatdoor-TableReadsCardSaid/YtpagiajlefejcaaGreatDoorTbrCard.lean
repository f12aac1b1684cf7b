/- TableReads: the card. Which values and tables may be, their order, how they are written, and what is read, is what the document says. No condition but what the row lists. -/
import Derived.Test.YtpagiajlefejcaaGreatDoorTbrM22
import Derived.Test.YtpagiajlefejcaaGreatDoorCards
import Derived.Test.YtpagiajlefejcaaGreatDoorTie
set_option linter.unusedSimpArgs false
set_option linter.unusedVariables false
namespace Go.Proofs.YtpagiajlefejcaaGreatDoor
open Go
theorem Tbr.proved : Rows.TableReadsCardSaid :=
  Claim7.holds_tied_plain_at .later [] _ _ _ _
    Tbr.said (fun _ h => by cases h) (by kernel_rfl) (fun _ h => by cases h) tableReads_row_tie rfl ⟨rfl, rfl⟩ (by kernel_rfl) rfl
    (fun f fn hf hfn => by
      obtain rfl : f = 3 := Option.some.inj ((show Tryz.prog.funcNamed "foreman/foremanlaw.TableReads" = some 3 by kernel_rfl).symm.trans hf) |>.symm
      obtain rfl : fn = Tryz.f3 := (Option.some.inj (Tryz.func3.symm.trans hfn)).symm
      exact ⟨by kernel_rfl, by
        rw [Tryz.params3]
        intro j t ht
        rcases j with _ | _ | _ | _ | j
        · obtain rfl : 25 = t := by simpa using ht
          kernel_rfl
        · obtain rfl : 27 = t := by simpa using ht
          kernel_rfl
        · obtain rfl : 27 = t := by simpa using ht
          kernel_rfl
        · obtain rfl : 9 = t := by simpa using ht
          kernel_rfl
        · simp at ht⟩)
    (by kernel_rfl)
#print axioms Tbr.proved
end Go.Proofs.YtpagiajlefejcaaGreatDoor
