/-
  DERIVED. GIVEN WITH THE SEED: THE CARDS: each row of YtbhejdljekmohaaGreatDoorRows.lean that lists a variable, with what it lists TIED to the program's text (the seventh form; the later family's looks); each row that meets fmt, with fmt's text TOLD by the authors' own Lean function (tested against real Go, not proved from fmt's source: count such statements apart). THE CARD IS WHAT COUNTS. Prove the row's statement (the work); the ties are given (YtbhejdljekmohaaGreatDoorTie.lean); close each card by the builder's one call (the guide's Derived/Test/ToyasCard.lean, 'card_holds'). Laid BY PROGRAM, IN A SANDBOX (cutbox-door.mjs). By AI agents, Wed Nov 11 2026. No macro, syntax, notation, axiom, sorry.
-/
import Derived.Test.YtbhejdljekmohaaGreatDoorRows
import GoSem.ClaimSeven
namespace Go.Proofs.YtbhejdljekmohaaGreatDoor
namespace Rows

/-- THE TIED CARD OF 'foremanlaw.FlowLimits'. -/
def flowLimitsCard : Claim7 := { stood := { row := flowLimitsRow, standIns := [], harness := (true, "6ae5c603a404ea4d6a24326251d3cd876241d993085d8ab38ea89ceac3eca4c8"), looks := true }, kinds := [], alts := [], laidByText := true, laidKinds := [.data, .data, .data, .data, .handle, .sentinel, .sentinel, .data, .data, .widerDeep, .pinned], laidTests := true, laidLooks := .later }
def FlowLimitsCardSaid : Prop := Claim7.holds Tryz.pinned (.plain (OpenSpec.ofChange flowLimitsSpec)) flowLimitsCard

/-- THE TIED CARD OF 'foremanlaw.FlowReads'. -/
def flowReadsCard : Claim7 := { stood := { row := flowReadsRow, standIns := [], harness := (true, "6ae5c603a404ea4d6a24326251d3cd876241d993085d8ab38ea89ceac3eca4c8"), looks := true }, kinds := [], alts := [], laidByText := true, laidKinds := [.data, .data, .data, .data, .handle, .sentinel, .sentinel, .data, .data, .widerDeep, .pinned], laidTests := true, laidLooks := .later }
def FlowReadsCardSaid : Prop := Claim7.holds Tryz.pinned (.plain (OpenSpec.ofChange flowReadsSpec)) flowReadsCard

/-- THE SECOND FORM's CARD OF 'foremanlaw.FlowLimits'. -/
def flowLimitsUptoCard : Claim7 := { stood := { row := flowLimitsUptoRow, standIns := [], harness := (true, "6ae5c603a404ea4d6a24326251d3cd876241d993085d8ab38ea89ceac3eca4c8"), looks := true }, kinds := [], alts := [], laidByText := true, laidKinds := [.data, .data, .data, .data, .handle, .sentinel, .sentinel, .data, .data, .widerDeep, .pinned], laidTests := true, laidLooks := .later }
def FlowLimitsUptoCardSaid : Prop := Claim7.holds Tryz.pinned (.plain (OpenSpec.upto flowLimitsSpec)) flowLimitsUptoCard

/-- THE SECOND FORM's CARD OF 'foremanlaw.FlowReads'. -/
def flowReadsUptoCard : Claim7 := { stood := { row := flowReadsUptoRow, standIns := [], harness := (true, "6ae5c603a404ea4d6a24326251d3cd876241d993085d8ab38ea89ceac3eca4c8"), looks := true }, kinds := [], alts := [], laidByText := true, laidKinds := [.data, .data, .data, .data, .handle, .sentinel, .sentinel, .data, .data, .widerDeep, .pinned], laidTests := true, laidLooks := .later }
def FlowReadsUptoCardSaid : Prop := Claim7.holds Tryz.pinned (.plain (OpenSpec.upto flowReadsSpec)) flowReadsUptoCard
end Rows
end Go.Proofs.YtbhejdljekmohaaGreatDoor
