/- OpsSort: the card. Whatever the names, the job and the table No condition but what the row lists. -/
import Derived.Test.YtpfkjejknlkkoaaGreatDoorOsoM40
import Derived.Test.YtpfkjejknlkkoaaGreatDoorCards
import Derived.Test.YtpfkjejknlkkoaaGreatDoorTie
set_option linter.unusedSimpArgs false
set_option linter.unusedVariables false
namespace Go.Proofs.YtpfkjejknlkkoaaGreatDoor
open Go
theorem Oso.proved : Rows.OpsSortCardSaid :=
  Claim7.holds_tied_plain_at .later [] _ _ _ _
    Oso.said (fun _ h => by cases h) (by kernel_rfl) (fun _ h => by cases h) opsSort_row_tie rfl ⟨rfl, rfl⟩ (by kernel_rfl) rfl
    (fun f fn hf hfn => by
      obtain rfl : f = 4 := Option.some.inj ((show Tryz.prog.funcNamed "foreman/foremankeep.OpsSort" = some 4 by kernel_rfl).symm.trans hf) |>.symm
      obtain rfl : fn = Tryz.f4 := (Option.some.inj (Tryz.func4.symm.trans hfn)).symm
      exact ⟨by kernel_rfl, by
        rw [Tryz.params4]
        intro j t ht
        rcases j with _ | _ | _ | j
        · obtain rfl : 30 = t := by simpa using ht
          kernel_rfl
        · obtain rfl : 36 = t := by simpa using ht
          kernel_rfl
        · obtain rfl : 25 = t := by simpa using ht
          kernel_rfl
        · simp at ht⟩)
    (by kernel_rfl)
#print axioms Oso.proved
end Go.Proofs.YtpfkjejknlkkoaaGreatDoor
