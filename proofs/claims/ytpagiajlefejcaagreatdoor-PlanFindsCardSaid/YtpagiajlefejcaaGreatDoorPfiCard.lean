/- PlanFinds: the card. What is found of any flow, and where, its columns, and its jobs' order, is the document's: the reference's Parse, Check, Order and Ready and the program's are each shown to compute the same plain functions of the text. No condition but what the row lists. -/
import Derived.Test.YtpagiajlefejcaaGreatDoorPfiM22
import Derived.Test.YtpagiajlefejcaaGreatDoorCards
import Derived.Test.YtpagiajlefejcaaGreatDoorTie
set_option linter.unusedSimpArgs false
set_option linter.unusedVariables false
namespace Go.Proofs.YtpagiajlefejcaaGreatDoor
open Go
theorem Pfi.proved:Rows.PlanFindsCardSaid :=
  Claim7.holds_tied_plain_at .later [] _ _ _ _
    Pfi.said (fun _ h=>by cases h) (by kernel_rfl) (fun _ h=>by cases h) planFinds_row_tie rfl ⟨rfl,rfl⟩ (by kernel_rfl) rfl
    (fun f I D A=>by
      obtain rfl:f=5:=Option.some.inj ((show Tryz.prog.funcNamed "foreman/foremanlaw.PlanFinds" = some 5 by kernel_rfl).symm.trans D) |>.symm;obtain rfl:I=Tryz.f5:=(Option.some.inj (Tryz.func5.symm.trans A)).symm;exact ⟨by kernel_rfl,by
        rw[Tryz.params5];intro j t B;rcases j with _|j
        · obtain rfl:9=t:=by simpa using B
          kernel_rfl
        · simp at B⟩)
    (by kernel_rfl)
#print axioms Pfi.proved
end Go.Proofs.YtpagiajlefejcaaGreatDoor
