/- EvalMore: the card. With one job more, that nobody asks for, a flow tells the same. No condition but what the row lists. -/
import Derived.Test.YtecpeogejjibaaaGreatDoorEmoM20
import Derived.Test.YtecpeogejjibaaaGreatDoorCards
import Derived.Test.YtecpeogejjibaaaGreatDoorTie
set_option linter.unusedSimpArgs false
set_option linter.unusedVariables false
namespace Go.Proofs.YtecpeogejjibaaaGreatDoor
open Go
theorem Emo.proved:Rows.EvalMoreCardSaid :=
  Claim7.holds_tied_plain_at .later [] _ _ _ _
    Emo.said (fun _ h=>by cases h) (by kernel_rfl) (fun _ h=>by cases h) evalMore_row_tie rfl ⟨rfl,rfl⟩ (by kernel_rfl) rfl
    (fun f J M I=>by
      obtain rfl:f=4:=Option.some.inj ((show Tryz.prog.funcNamed "foreman/foremankeep.EvalMore" = some 4 by kernel_rfl).symm.trans M) |>.symm;obtain rfl:J=Tryz.f4:=(Option.some.inj (Tryz.func4.symm.trans I)).symm;exact ⟨by kernel_rfl,by
        rw[Tryz.params4];intro j t D;rcases j with _|_|_|j
        · obtain rfl:9=t:=by simpa using D
          kernel_rfl
        · obtain rfl:22=t:=by simpa using D
          kernel_rfl
        · obtain rfl:9=t:=by simpa using D
          kernel_rfl
        · simp at D⟩)
    (by kernel_rfl)
#print axioms Emo.proved
end Go.Proofs.YtecpeogejjibaaaGreatDoor
