/-
  DERIVED. GIVEN WITH THE SEED: THE CARDS: each row of YtodjaomghmcoiaaGreatDoorRows.lean that lists a variable, with what it lists TIED to the program's text (the seventh form; the later family's looks); each row that meets fmt, with fmt's text TOLD by the authors' own Lean function (tested against real Go, not proved from fmt's source: count such statements apart). THE CARD IS WHAT COUNTS. Prove the row's statement (the work); the ties are given (YtodjaomghmcoiaaGreatDoorTie.lean); close each card by the builder's one call (the guide's Derived/Test/ToyasCard.lean, 'card_holds'). Laid BY PROGRAM, IN A SANDBOX (cutbox-door.mjs). By AI agents, Wed Nov 11 2026. No macro, syntax, notation, axiom, sorry.
-/
import Derived.Test.YtodjaomghmcoiaaGreatDoorRows
import GoSem.ClaimSeven
namespace Go.Proofs.YtodjaomghmcoiaaGreatDoor
namespace Rows

/-- THE TIED CARD OF 'foremankeep.TableBack'. -/
def tableBackCard : Claim7 := { stood := { row := tableBackRow, standIns := [], harness := (true, "f32bd4c600ae3aa9b0c1635917da39332905a9504f39c11ed773bbb5dfb6c512"), looks := true }, kinds := [], alts := [], laidByText := true, laidKinds := [.data, .data, .data, .data, .sentinel, .sentinel, .widerDeep, .pinned], laidTests := true, laidLooks := .later }
def TableBackCardSaid : Prop := Claim7.holds Tryz.pinned (.plain (OpenSpec.ofChange tableBackSpec)) tableBackCard

/-- THE TIED CARD OF 'foremankeep.TableCuts'. -/
def tableCutsCard : Claim7 := { stood := { row := tableCutsRow, standIns := [], harness := (true, "f32bd4c600ae3aa9b0c1635917da39332905a9504f39c11ed773bbb5dfb6c512"), looks := true }, kinds := [], alts := [], laidByText := true, laidKinds := [.data, .data, .data, .data, .sentinel, .sentinel, .widerDeep, .pinned], laidTests := true, laidLooks := .later }
def TableCutsCardSaid : Prop := Claim7.holds Tryz.pinned (.plain (OpenSpec.ofChange tableCutsSpec)) tableCutsCard

/-- THE TIED CARD OF 'foremanlaw.TableReads'. -/
def tableReadsCard : Claim7 := { stood := { row := tableReadsRow, standIns := [], harness := (true, "f32bd4c600ae3aa9b0c1635917da39332905a9504f39c11ed773bbb5dfb6c512"), looks := true }, kinds := [], alts := [], laidByText := true, laidKinds := [.data, .data, .data, .data, .handle, .sentinel, .sentinel, .data, .widerDeep, .pinned], laidTests := true, laidLooks := .later }
def TableReadsCardSaid : Prop := Claim7.holds Tryz.pinned (.plain (OpenSpec.ofChange tableReadsSpec)) tableReadsCard

/-- THE SECOND FORM's CARD OF 'foremankeep.TableBack'. -/
def tableBackUptoCard : Claim7 := { stood := { row := tableBackUptoRow, standIns := [], harness := (true, "f32bd4c600ae3aa9b0c1635917da39332905a9504f39c11ed773bbb5dfb6c512"), looks := true }, kinds := [], alts := [], laidByText := true, laidKinds := [.data, .data, .data, .data, .sentinel, .sentinel, .widerDeep, .pinned], laidTests := true, laidLooks := .later }
def TableBackUptoCardSaid : Prop := Claim7.holds Tryz.pinned (.plain (OpenSpec.upto tableBackSpec)) tableBackUptoCard

/-- THE SECOND FORM's CARD OF 'foremankeep.TableCuts'. -/
def tableCutsUptoCard : Claim7 := { stood := { row := tableCutsUptoRow, standIns := [], harness := (true, "f32bd4c600ae3aa9b0c1635917da39332905a9504f39c11ed773bbb5dfb6c512"), looks := true }, kinds := [], alts := [], laidByText := true, laidKinds := [.data, .data, .data, .data, .sentinel, .sentinel, .widerDeep, .pinned], laidTests := true, laidLooks := .later }
def TableCutsUptoCardSaid : Prop := Claim7.holds Tryz.pinned (.plain (OpenSpec.upto tableCutsSpec)) tableCutsUptoCard

/-- THE SECOND FORM's CARD OF 'foremanlaw.TableReads'. -/
def tableReadsUptoCard : Claim7 := { stood := { row := tableReadsUptoRow, standIns := [], harness := (true, "f32bd4c600ae3aa9b0c1635917da39332905a9504f39c11ed773bbb5dfb6c512"), looks := true }, kinds := [], alts := [], laidByText := true, laidKinds := [.data, .data, .data, .data, .handle, .sentinel, .sentinel, .data, .widerDeep, .pinned], laidTests := true, laidLooks := .later }
def TableReadsUptoCardSaid : Prop := Claim7.holds Tryz.pinned (.plain (OpenSpec.upto tableReadsSpec)) tableReadsUptoCard
end Rows
end Go.Proofs.YtodjaomghmcoiaaGreatDoor
