/-
  DERIVED. GIVEN WITH THE SEED: THE CARDS: each row of YtjoolemhcpcnoaaDoorRows.lean that lists a variable, with what it lists TIED to the program's text (the seventh form; the later family's looks); each row that meets fmt, with fmt's text TOLD by the authors' own Lean function (tested against real Go, not proved from fmt's source: count such statements apart). THE CARD IS WHAT COUNTS. Prove the row's statement (the work); the ties are given (YtjoolemhcpcnoaaDoorTie.lean); close each card by the builder's one call (the guide's Derived/Test/ToyasCard.lean, 'card_holds'). Laid BY PROGRAM, IN A SANDBOX (cutbox-door.mjs). By AI agents, Wed Nov 11 2026. No macro, syntax, notation, axiom, sorry.
-/
import Derived.Test.YtjoolemhcpcnoaaDoorRows
import GoSem.ClaimSeven
namespace Go.Proofs.YtjoolemhcpcnoaaDoor
namespace Rows

/-- THE TIED CARD OF 'foremankeep.DiskRests'. -/
def diskRestsCard : Claim7 := { stood := { row := diskRestsRow, standIns := [], harness := (true, "f99397a3d09881d6e67d52c083cfd6a914e583dbf6a069b11089f1da74d828ce"), looks := true }, kinds := [], alts := [], laidByText := true, laidKinds := [.handle], laidTests := true, laidLooks := .later }
def DiskRestsCardSaid : Prop := Claim7.holds Tryd.pinned (.plain (OpenSpec.ofChange diskRestsSpec)) diskRestsCard

/-- THE TIED CARD OF 'foremanlaw.SumTells'. -/
def sumTellsCard : Claim7 := { stood := { row := sumTellsRow, standIns := [], harness := (true, "f99397a3d09881d6e67d52c083cfd6a914e583dbf6a069b11089f1da74d828ce"), looks := true }, kinds := [], alts := [], laidByText := true, laidKinds := [.data, .data, .data, .data], laidTests := true, laidLooks := .later }
def SumTellsCardSaid : Prop := Claim7.holds Tryd.pinned (.plain (OpenSpec.ofChange sumTellsSpec)) sumTellsCard

/-- THE TIED CARD OF 'foremankeep.StoreOnce'. -/
def storeOnceCard : Claim7 := { stood := { row := storeOnceRow, standIns := [], harness := (true, "f99397a3d09881d6e67d52c083cfd6a914e583dbf6a069b11089f1da74d828ce"), looks := true }, kinds := [], alts := [], laidByText := true, laidKinds := [.data, .handle], laidTests := true, laidLooks := .later }
def StoreOnceCardSaid : Prop := Claim7.holds Tryd.pinned (.plain (OpenSpec.ofChange storeOnceSpec)) storeOnceCard

/-- THE TIED CARD OF 'foremanlaw.DiskKeeps'. -/
def diskKeepsCard : Claim7 := { stood := { row := diskKeepsRow, standIns := [], harness := (true, "f99397a3d09881d6e67d52c083cfd6a914e583dbf6a069b11089f1da74d828ce"), looks := true }, kinds := [], alts := [], laidByText := true, laidKinds := [.handle], laidTests := true, laidLooks := .later }
def DiskKeepsCardSaid : Prop := Claim7.holds Tryd.pinned (.plain (OpenSpec.ofChange diskKeepsSpec)) diskKeepsCard

/-- THE TIED CARD OF 'foremankeep.StoreHolds'. -/
def storeHoldsCard : Claim7 := { stood := { row := storeHoldsRow, standIns := [], harness := (true, "f99397a3d09881d6e67d52c083cfd6a914e583dbf6a069b11089f1da74d828ce"), looks := true }, kinds := [], alts := [], laidByText := true, laidKinds := [.data, .handle], laidTests := true, laidLooks := .later }
def StoreHoldsCardSaid : Prop := Claim7.holds Tryd.pinned (.plain (OpenSpec.ofChange storeHoldsSpec)) storeHoldsCard

/-- THE TIED CARD OF 'foremankeep.DiskSure'. -/
def diskSureCard : Claim7 := { stood := { row := diskSureRow, standIns := [], harness := (true, "f99397a3d09881d6e67d52c083cfd6a914e583dbf6a069b11089f1da74d828ce"), looks := true }, kinds := [], alts := [], laidByText := true, laidKinds := [.data, .pinned], laidTests := true, laidLooks := .later }
def DiskSureCardSaid : Prop := Claim7.holds Tryd.pinned (.plain (OpenSpec.ofChange diskSureSpec)) diskSureCard

/-- THE SECOND FORM's CARD OF 'foremankeep.DiskRests'. -/
def diskRestsUptoCard : Claim7 := { stood := { row := diskRestsUptoRow, standIns := [], harness := (true, "f99397a3d09881d6e67d52c083cfd6a914e583dbf6a069b11089f1da74d828ce"), looks := true }, kinds := [], alts := [], laidByText := true, laidKinds := [.handle], laidTests := true, laidLooks := .later }
def DiskRestsUptoCardSaid : Prop := Claim7.holds Tryd.pinned (.plain (OpenSpec.upto diskRestsSpec)) diskRestsUptoCard

/-- THE SECOND FORM's CARD OF 'foremanlaw.SumTells'. -/
def sumTellsUptoCard : Claim7 := { stood := { row := sumTellsUptoRow, standIns := [], harness := (true, "f99397a3d09881d6e67d52c083cfd6a914e583dbf6a069b11089f1da74d828ce"), looks := true }, kinds := [], alts := [], laidByText := true, laidKinds := [.data, .data, .data, .data], laidTests := true, laidLooks := .later }
def SumTellsUptoCardSaid : Prop := Claim7.holds Tryd.pinned (.plain (OpenSpec.upto sumTellsSpec)) sumTellsUptoCard

/-- THE SECOND FORM's CARD OF 'foremankeep.StoreOnce'. -/
def storeOnceUptoCard : Claim7 := { stood := { row := storeOnceUptoRow, standIns := [], harness := (true, "f99397a3d09881d6e67d52c083cfd6a914e583dbf6a069b11089f1da74d828ce"), looks := true }, kinds := [], alts := [], laidByText := true, laidKinds := [.data, .handle], laidTests := true, laidLooks := .later }
def StoreOnceUptoCardSaid : Prop := Claim7.holds Tryd.pinned (.plain (OpenSpec.upto storeOnceSpec)) storeOnceUptoCard

/-- THE SECOND FORM's CARD OF 'foremanlaw.DiskKeeps'. -/
def diskKeepsUptoCard : Claim7 := { stood := { row := diskKeepsUptoRow, standIns := [], harness := (true, "f99397a3d09881d6e67d52c083cfd6a914e583dbf6a069b11089f1da74d828ce"), looks := true }, kinds := [], alts := [], laidByText := true, laidKinds := [.handle], laidTests := true, laidLooks := .later }
def DiskKeepsUptoCardSaid : Prop := Claim7.holds Tryd.pinned (.plain (OpenSpec.upto diskKeepsSpec)) diskKeepsUptoCard

/-- THE SECOND FORM's CARD OF 'foremankeep.StoreHolds'. -/
def storeHoldsUptoCard : Claim7 := { stood := { row := storeHoldsUptoRow, standIns := [], harness := (true, "f99397a3d09881d6e67d52c083cfd6a914e583dbf6a069b11089f1da74d828ce"), looks := true }, kinds := [], alts := [], laidByText := true, laidKinds := [.data, .handle], laidTests := true, laidLooks := .later }
def StoreHoldsUptoCardSaid : Prop := Claim7.holds Tryd.pinned (.plain (OpenSpec.upto storeHoldsSpec)) storeHoldsUptoCard

/-- THE SECOND FORM's CARD OF 'foremankeep.DiskSure'. -/
def diskSureUptoCard : Claim7 := { stood := { row := diskSureUptoRow, standIns := [], harness := (true, "f99397a3d09881d6e67d52c083cfd6a914e583dbf6a069b11089f1da74d828ce"), looks := true }, kinds := [], alts := [], laidByText := true, laidKinds := [.data, .pinned], laidTests := true, laidLooks := .later }
def DiskSureUptoCardSaid : Prop := Claim7.holds Tryd.pinned (.plain (OpenSpec.upto diskSureSpec)) diskSureUptoCard
end Rows
end Go.Proofs.YtjoolemhcpcnoaaDoor
