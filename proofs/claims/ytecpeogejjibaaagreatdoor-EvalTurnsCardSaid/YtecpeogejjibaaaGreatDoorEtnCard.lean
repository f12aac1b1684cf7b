/- EvalTurns: the card. In another order a flow tells the same. No condition but what the row lists. -/
import Derived.Test.YtecpeogejjibaaaGreatDoorEtnM19
import Derived.Test.YtecpeogejjibaaaGreatDoorCards
import Derived.Test.YtecpeogejjibaaaGreatDoorTie
set_option linter.unusedSimpArgs false
set_option linter.unusedVariables false
namespace Go.Proofs.YtecpeogejjibaaaGreatDoor
open Go
theorem Etn.proved:Rows.EvalTurnsCardSaid :=
  Claim7.holds_tied_plain_at .later [] _ _ _ _
    Etn.said (fun _ h=>by cases h) (by kernel_rfl) (fun _ h=>by cases h) evalTurns_row_tie rfl ⟨rfl,rfl⟩ (by kernel_rfl) rfl
    (fun f I J H=>by
      obtain rfl:f=3:=Option.some.inj ((show Tryz.prog.funcNamed "foreman/foremankeep.EvalTurns" = some 3 by kernel_rfl).symm.trans J) |>.symm;obtain rfl:I=Tryz.f3:=(Option.some.inj (Tryz.func3.symm.trans H)).symm;exact ⟨by kernel_rfl,by
        rw[Tryz.params3];intro j t D;rcases j with _|_|_|j
        · obtain rfl:9=t:=by simpa using D
          kernel_rfl
        · obtain rfl:22=t:=by simpa using D
          kernel_rfl
        · obtain rfl:3=t:=by simpa using D
          kernel_rfl
        · simp at D⟩)
    (by kernel_rfl)
#print axioms Etn.proved
end Go.Proofs.YtecpeogejjibaaaGreatDoor
