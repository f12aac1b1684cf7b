/- DiskKeeps: the card. -/
import Derived.Test.YtjoolemhcpcnoaaDoorKeepsLaw
import Derived.Test.YtjoolemhcpcnoaaDoorCards
import Derived.Test.YtjoolemhcpcnoaaDoorTie
namespace Go.Proofs.YtjoolemhcpcnoaaDoor
open Go
theorem KeepsL.proved : Rows.DiskKeepsCardSaid :=
  Claim7.holds_tied_plain_at .later [] _ _ _ _
    KeepsL.said (fun _ h => by cases h) (by kernel_rfl) (fun _ h => by cases h) diskKeeps_row_tie rfl ⟨rfl, rfl⟩ (by kernel_rfl) rfl
    (fun f fn hf hfn => by
      obtain rfl : f = 6 := Option.some.inj ((show Tryd.prog.funcNamed "foreman/foremanlaw.DiskKeeps" = some 6 by kernel_rfl).symm.trans hf) |>.symm
      obtain rfl : fn = Tryd.f6 := (Option.some.inj (Tryd.func6.symm.trans hfn)).symm
      exact ⟨by kernel_rfl, by
        rw [Tryd.params6]
        intro j t ht
        rcases j with _ | _ | j
        · obtain rfl : 3 = t := by simpa using ht
          kernel_rfl
        · obtain rfl : 51 = t := by simpa using ht
          kernel_rfl
        · simp at ht⟩)
    (by kernel_rfl)
#print axioms KeepsL.proved
end Go.Proofs.YtjoolemhcpcnoaaDoor
