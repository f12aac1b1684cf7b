/-
  DERIVED. GIVEN WITH THE SEED: THE CARDS: each row of YtpfkjejknlkkoaaGreatDoorRows.lean that lists a variable, with what it lists TIED to the program's text (the seventh form; the later family's looks); each row that meets fmt, with fmt's text TOLD by the authors' own Lean function (tested against real Go, not proved from fmt's source: count such statements apart). THE CARD IS WHAT COUNTS. Prove the row's statement (the work); the ties are given (YtpfkjejknlkkoaaGreatDoorTie.lean); close each card by the builder's one call (the guide's Derived/Test/ToyasCard.lean, 'card_holds'). Laid BY PROGRAM, IN A SANDBOX (cutbox-door.mjs). By AI agents, Wed Nov 11 2026. No macro, syntax, notation, axiom, sorry.
-/
import Derived.Test.YtpfkjejknlkkoaaGreatDoorRows
import GoSem.ClaimSeven
namespace Go.Proofs.YtpfkjejknlkkoaaGreatDoor
namespace Rows

/-- THE TIED CARD OF 'foremankeep.OpsJoin'. -/
def opsJoinCard : Claim7 := { stood := { row := opsJoinRow, standIns := [], harness := (true, "4d14a96a3e775b1101f3b849101a30756323984e34697be681a2e9683d95f418"), looks := true }, kinds := [], alts := [], laidByText := true, laidKinds := [.data, .data, .data, .data, .sentinel, .sentinel, .widerDeep, .widerDeep, .pinned], laidTests := true, laidLooks := .later }
def OpsJoinCardSaid : Prop := Claim7.holds Tryz.pinned (.plain (OpenSpec.ofChange opsJoinSpec)) opsJoinCard

/-- THE TIED CARD OF 'foremankeep.OpsSort'. -/
def opsSortCard : Claim7 := { stood := { row := opsSortRow, standIns := [], harness := (true, "4d14a96a3e775b1101f3b849101a30756323984e34697be681a2e9683d95f418"), looks := true }, kinds := [], alts := [], laidByText := true, laidKinds := [.data, .data, .data, .data, .sentinel, .sentinel, .widerDeep, .widerDeep, .pinned], laidTests := true, laidLooks := .later }
def OpsSortCardSaid : Prop := Claim7.holds Tryz.pinned (.plain (OpenSpec.ofChange opsSortSpec)) opsSortCard

/-- THE SECOND FORM's CARD OF 'foremankeep.OpsJoin'. -/
def opsJoinUptoCard : Claim7 := { stood := { row := opsJoinUptoRow, standIns := [], harness := (true, "4d14a96a3e775b1101f3b849101a30756323984e34697be681a2e9683d95f418"), looks := true }, kinds := [], alts := [], laidByText := true, laidKinds := [.data, .data, .data, .data, .sentinel, .sentinel, .widerDeep, .widerDeep, .pinned], laidTests := true, laidLooks := .later }
def OpsJoinUptoCardSaid : Prop := Claim7.holds Tryz.pinned (.plain (OpenSpec.upto opsJoinSpec)) opsJoinUptoCard

/-- THE SECOND FORM's CARD OF 'foremankeep.OpsSort'. -/
def opsSortUptoCard : Claim7 := { stood := { row := opsSortUptoRow, standIns := [], harness := (true, "4d14a96a3e775b1101f3b849101a30756323984e34697be681a2e9683d95f418"), looks := true }, kinds := [], alts := [], laidByText := true, laidKinds := [.data, .data, .data, .data, .sentinel, .sentinel, .widerDeep, .widerDeep, .pinned], laidTests := true, laidLooks := .later }
def OpsSortUptoCardSaid : Prop := Claim7.holds Tryz.pinned (.plain (OpenSpec.upto opsSortSpec)) opsSortUptoCard
end Rows
end Go.Proofs.YtpfkjejknlkkoaaGreatDoor
