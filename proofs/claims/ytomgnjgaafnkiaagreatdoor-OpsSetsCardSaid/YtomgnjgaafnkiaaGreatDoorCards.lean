/-
  DERIVED. GIVEN WITH THE SEED: THE CARDS: each row of YtomgnjgaafnkiaaGreatDoorRows.lean that lists a variable, with what it lists TIED to the program's text (the seventh form; the later family's looks); each row that meets fmt, with fmt's text TOLD by the authors' own Lean function (tested against real Go, not proved from fmt's source: count such statements apart). THE CARD IS WHAT COUNTS. Prove the row's statement (the work); the ties are given (YtomgnjgaafnkiaaGreatDoorTie.lean); close each card by the builder's one call (the guide's Derived/Test/ToyasCard.lean, 'card_holds'). Laid BY PROGRAM, IN A SANDBOX (cutbox-door.mjs). By AI agents, Wed Nov 11 2026. No macro, syntax, notation, axiom, sorry.
-/
import Derived.Test.YtomgnjgaafnkiaaGreatDoorRows
import GoSem.ClaimSeven
namespace Go.Proofs.YtomgnjgaafnkiaaGreatDoor
namespace Rows

/-- THE TIED CARD OF 'foremankeep.OpsJoin'. -/
def opsJoinCard : Claim7 := { stood := { row := opsJoinRow, standIns := [], harness := (true, "29ac82e8e29a2620d688c1607f45ab68b00b54e4ea1e20468f52b50e66fca5a4"), looks := true }, kinds := [], alts := [], laidByText := true, laidKinds := [.data, .data, .data, .data, .sentinel, .sentinel, .widerDeep, .widerDeep, .pinned], laidTests := true, laidLooks := .later }
def OpsJoinCardSaid : Prop := Claim7.holds Tryz.pinned (.plain (OpenSpec.ofChange opsJoinSpec)) opsJoinCard

/-- THE TIED CARD OF 'foremankeep.OpsSplit'. -/
def opsSplitCard : Claim7 := { stood := { row := opsSplitRow, standIns := [], harness := (true, "29ac82e8e29a2620d688c1607f45ab68b00b54e4ea1e20468f52b50e66fca5a4"), looks := true }, kinds := [], alts := [], laidByText := true, laidKinds := [.data, .data, .data, .data, .sentinel, .sentinel, .widerDeep, .widerDeep, .pinned], laidTests := true, laidLooks := .later }
def OpsSplitCardSaid : Prop := Claim7.holds Tryz.pinned (.plain (OpenSpec.ofChange opsSplitSpec)) opsSplitCard

/-- THE TIED CARD OF 'foremankeep.OpsSort'. -/
def opsSortCard : Claim7 := { stood := { row := opsSortRow, standIns := [], harness := (true, "29ac82e8e29a2620d688c1607f45ab68b00b54e4ea1e20468f52b50e66fca5a4"), looks := true }, kinds := [], alts := [], laidByText := true, laidKinds := [.data, .data, .data, .data, .sentinel, .sentinel, .widerDeep, .widerDeep, .pinned], laidTests := true, laidLooks := .later }
def OpsSortCardSaid : Prop := Claim7.holds Tryz.pinned (.plain (OpenSpec.ofChange opsSortSpec)) opsSortCard

/-- THE TIED CARD OF 'foremankeep.OpsOnce'. -/
def opsOnceCard : Claim7 := { stood := { row := opsOnceRow, standIns := [], harness := (true, "29ac82e8e29a2620d688c1607f45ab68b00b54e4ea1e20468f52b50e66fca5a4"), looks := true }, kinds := [], alts := [], laidByText := true, laidKinds := [.data, .data, .data, .data, .sentinel, .sentinel, .widerDeep, .widerDeep, .pinned], laidTests := true, laidLooks := .later }
def OpsOnceCardSaid : Prop := Claim7.holds Tryz.pinned (.plain (OpenSpec.ofChange opsOnceSpec)) opsOnceCard

/-- THE TIED CARD OF 'foremankeep.OpsTurns'. -/
def opsTurnsCard : Claim7 := { stood := { row := opsTurnsRow, standIns := [], harness := (true, "29ac82e8e29a2620d688c1607f45ab68b00b54e4ea1e20468f52b50e66fca5a4"), looks := true }, kinds := [], alts := [], laidByText := true, laidKinds := [.data, .data, .data, .data, .sentinel, .sentinel, .widerDeep, .widerDeep, .pinned], laidTests := true, laidLooks := .later }
def OpsTurnsCardSaid : Prop := Claim7.holds Tryz.pinned (.plain (OpenSpec.ofChange opsTurnsSpec)) opsTurnsCard

/-- THE TIED CARD OF 'foremankeep.OpsSets'. -/
def opsSetsCard : Claim7 := { stood := { row := opsSetsRow, standIns := [], harness := (true, "29ac82e8e29a2620d688c1607f45ab68b00b54e4ea1e20468f52b50e66fca5a4"), looks := true }, kinds := [], alts := [], laidByText := true, laidKinds := [.data, .data, .data, .data, .sentinel, .sentinel, .widerDeep, .widerDeep, .pinned], laidTests := true, laidLooks := .later }
def OpsSetsCardSaid : Prop := Claim7.holds Tryz.pinned (.plain (OpenSpec.ofChange opsSetsSpec)) opsSetsCard

/-- THE SECOND FORM's CARD OF 'foremankeep.OpsJoin'. -/
def opsJoinUptoCard : Claim7 := { stood := { row := opsJoinUptoRow, standIns := [], harness := (true, "29ac82e8e29a2620d688c1607f45ab68b00b54e4ea1e20468f52b50e66fca5a4"), looks := true }, kinds := [], alts := [], laidByText := true, laidKinds := [.data, .data, .data, .data, .sentinel, .sentinel, .widerDeep, .widerDeep, .pinned], laidTests := true, laidLooks := .later }
def OpsJoinUptoCardSaid : Prop := Claim7.holds Tryz.pinned (.plain (OpenSpec.upto opsJoinSpec)) opsJoinUptoCard

/-- THE SECOND FORM's CARD OF 'foremankeep.OpsSplit'. -/
def opsSplitUptoCard : Claim7 := { stood := { row := opsSplitUptoRow, standIns := [], harness := (true, "29ac82e8e29a2620d688c1607f45ab68b00b54e4ea1e20468f52b50e66fca5a4"), looks := true }, kinds := [], alts := [], laidByText := true, laidKinds := [.data, .data, .data, .data, .sentinel, .sentinel, .widerDeep, .widerDeep, .pinned], laidTests := true, laidLooks := .later }
def OpsSplitUptoCardSaid : Prop := Claim7.holds Tryz.pinned (.plain (OpenSpec.upto opsSplitSpec)) opsSplitUptoCard

/-- THE SECOND FORM's CARD OF 'foremankeep.OpsSort'. -/
def opsSortUptoCard : Claim7 := { stood := { row := opsSortUptoRow, standIns := [], harness := (true, "29ac82e8e29a2620d688c1607f45ab68b00b54e4ea1e20468f52b50e66fca5a4"), looks := true }, kinds := [], alts := [], laidByText := true, laidKinds := [.data, .data, .data, .data, .sentinel, .sentinel, .widerDeep, .widerDeep, .pinned], laidTests := true, laidLooks := .later }
def OpsSortUptoCardSaid : Prop := Claim7.holds Tryz.pinned (.plain (OpenSpec.upto opsSortSpec)) opsSortUptoCard

/-- THE SECOND FORM's CARD OF 'foremankeep.OpsOnce'. -/
def opsOnceUptoCard : Claim7 := { stood := { row := opsOnceUptoRow, standIns := [], harness := (true, "29ac82e8e29a2620d688c1607f45ab68b00b54e4ea1e20468f52b50e66fca5a4"), looks := true }, kinds := [], alts := [], laidByText := true, laidKinds := [.data, .data, .data, .data, .sentinel, .sentinel, .widerDeep, .widerDeep, .pinned], laidTests := true, laidLooks := .later }
def OpsOnceUptoCardSaid : Prop := Claim7.holds Tryz.pinned (.plain (OpenSpec.upto opsOnceSpec)) opsOnceUptoCard

/-- THE SECOND FORM's CARD OF 'foremankeep.OpsTurns'. -/
def opsTurnsUptoCard : Claim7 := { stood := { row := opsTurnsUptoRow, standIns := [], harness := (true, "29ac82e8e29a2620d688c1607f45ab68b00b54e4ea1e20468f52b50e66fca5a4"), looks := true }, kinds := [], alts := [], laidByText := true, laidKinds := [.data, .data, .data, .data, .sentinel, .sentinel, .widerDeep, .widerDeep, .pinned], laidTests := true, laidLooks := .later }
def OpsTurnsUptoCardSaid : Prop := Claim7.holds Tryz.pinned (.plain (OpenSpec.upto opsTurnsSpec)) opsTurnsUptoCard

/-- THE SECOND FORM's CARD OF 'foremankeep.OpsSets'. -/
def opsSetsUptoCard : Claim7 := { stood := { row := opsSetsUptoRow, standIns := [], harness := (true, "29ac82e8e29a2620d688c1607f45ab68b00b54e4ea1e20468f52b50e66fca5a4"), looks := true }, kinds := [], alts := [], laidByText := true, laidKinds := [.data, .data, .data, .data, .sentinel, .sentinel, .widerDeep, .widerDeep, .pinned], laidTests := true, laidLooks := .later }
def OpsSetsUptoCardSaid : Prop := Claim7.holds Tryz.pinned (.plain (OpenSpec.upto opsSetsSpec)) opsSetsUptoCard
end Rows
end Go.Proofs.YtomgnjgaafnkiaaGreatDoor
