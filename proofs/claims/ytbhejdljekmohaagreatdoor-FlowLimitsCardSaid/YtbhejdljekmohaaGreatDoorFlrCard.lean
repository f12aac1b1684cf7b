/- FlowLimits: the card. How much, and how many, at most, is the document's. No condition but what the row lists. -/
import Derived.Test.YtbhejdljekmohaaGreatDoorFlrM36
import Derived.Test.YtbhejdljekmohaaGreatDoorCards
import Derived.Test.YtbhejdljekmohaaGreatDoorTie
namespace Go.Proofs.YtbhejdljekmohaaGreatDoor
open Go
theorem Fli.proved : Rows.FlowLimitsCardSaid :=
  Claim7.holds_tied_plain_at .later [] _ _ _ _
    Fli.said (fun _ h => by cases h) (by kernel_rfl) (fun _ h => by cases h) flowLimits_row_tie rfl ⟨rfl, rfl⟩ (by kernel_rfl) rfl
    (fun f fn hf hfn => by
      obtain rfl : f = 3 := Option.some.inj ((show Tryz.prog.funcNamed "foreman/foremanlaw.FlowLimits" = some 3 by kernel_rfl).symm.trans hf) |>.symm
      obtain rfl : fn = Tryz.f3 := (Option.some.inj (Tryz.func3.symm.trans hfn)).symm
      exact ⟨by kernel_rfl, by
        rw [Tryz.params3]
        intro j t ht
        rcases j with _ | _ | _ | j
        · obtain rfl : 3 = t := by simpa using ht
          kernel_rfl
        · obtain rfl : 3 = t := by simpa using ht
          kernel_rfl
        · obtain rfl : 9 = t := by simpa using ht
          kernel_rfl
        · simp at ht⟩)
    (by kernel_rfl)
#print axioms Fli.proved
end Go.Proofs.YtbhejdljekmohaaGreatDoor
