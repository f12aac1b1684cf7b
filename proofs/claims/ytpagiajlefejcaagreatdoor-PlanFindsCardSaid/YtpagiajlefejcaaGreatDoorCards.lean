/-
  DERIVED. GIVEN WITH THE SEED: THE CARDS: each row of YtpagiajlefejcaaGreatDoorRows.lean that lists a variable, with what it lists TIED to the program's text (the seventh form; the later family's looks); each row that meets fmt, with fmt's text TOLD by the authors' own Lean function (tested against real Go, not proved from fmt's source: count such statements apart). THE CARD IS WHAT COUNTS. Prove the row's statement (the work); the ties are given (YtpagiajlefejcaaGreatDoorTie.lean); close each card by the builder's one call (the guide's Derived/Test/ToyasCard.lean, 'card_holds'). Laid BY PROGRAM, IN A SANDBOX (cutbox-door.mjs). By AI agents, Wed Nov 11 2026. No macro, syntax, notation, axiom, sorry.
-/
import Derived.Test.YtpagiajlefejcaaGreatDoorRows
import GoSem.ClaimSeven
namespace Go.Proofs.YtpagiajlefejcaaGreatDoor
namespace Rows

/-- THE TIED CARD OF 'foremanlaw.TableReads'. -/
def tableReadsCard : Claim7 := { stood := { row := tableReadsRow, standIns := [], harness := (true, "5c945d2b7a4d6165ab1bfd3ea6f79a91dcd1d4b9766ac5840dcadafa0336409b"), looks := true }, kinds := [], alts := [], laidByText := true, laidKinds := [.data, .data, .data, .data, .handle, .sentinel, .sentinel, .data, .widerDeep, .pinned], laidTests := true, laidLooks := .later }
def TableReadsCardSaid : Prop := Claim7.holds Tryz.pinned (.plain (OpenSpec.ofChange tableReadsSpec)) tableReadsCard

/-- THE TIED CARD OF 'foremanlaw.OpsDo'. -/
def opsDoCard : Claim7 := { stood := { row := opsDoRow, standIns := [], harness := (true, "5c945d2b7a4d6165ab1bfd3ea6f79a91dcd1d4b9766ac5840dcadafa0336409b"), looks := true }, kinds := [], alts := [], laidByText := true, laidKinds := [.data, .data, .data, .data, .handle, .widerDeep, .pinned], laidTests := true, laidLooks := .later }
def OpsDoCardSaid : Prop := Claim7.holds Tryz.pinned (.plain (OpenSpec.ofChange opsDoSpec)) opsDoCard

/-- THE TIED CARD OF 'foremanlaw.PlanFinds'. -/
def planFindsCard : Claim7 := { stood := { row := planFindsRow, standIns := [], harness := (true, "5c945d2b7a4d6165ab1bfd3ea6f79a91dcd1d4b9766ac5840dcadafa0336409b"), looks := true }, kinds := [], alts := [], laidByText := true, laidKinds := [.data, .data, .data, .data, .handle, .sentinel, .sentinel, .data, .data, .widerDeep, .widerDeep, .pinned], laidTests := true, laidLooks := .later }
def PlanFindsCardSaid : Prop := Claim7.holds Tryz.pinned (.plain (OpenSpec.ofChange planFindsSpec)) planFindsCard

/-- THE TIED CARD OF 'foremanlaw.EvalRuns'. -/
def evalRunsCard : Claim7 := { stood := { row := evalRunsRow, standIns := [], harness := (true, "5c945d2b7a4d6165ab1bfd3ea6f79a91dcd1d4b9766ac5840dcadafa0336409b"), looks := true }, kinds := [], alts := [], laidByText := true, laidKinds := [.data, .data, .data, .data, .handle, .sentinel, .sentinel, .data, .data, .widerDeep, .widerDeep, .pinned], laidTests := true, laidLooks := .later }
def EvalRunsCardSaid : Prop := Claim7.holds Tryz.pinned (.plain (OpenSpec.ofChange evalRunsSpec)) evalRunsCard

/-- THE SECOND FORM's CARD OF 'foremanlaw.TableReads'. -/
def tableReadsUptoCard : Claim7 := { stood := { row := tableReadsUptoRow, standIns := [], harness := (true, "5c945d2b7a4d6165ab1bfd3ea6f79a91dcd1d4b9766ac5840dcadafa0336409b"), looks := true }, kinds := [], alts := [], laidByText := true, laidKinds := [.data, .data, .data, .data, .handle, .sentinel, .sentinel, .data, .widerDeep, .pinned], laidTests := true, laidLooks := .later }
def TableReadsUptoCardSaid : Prop := Claim7.holds Tryz.pinned (.plain (OpenSpec.upto tableReadsSpec)) tableReadsUptoCard

/-- THE SECOND FORM's CARD OF 'foremanlaw.OpsDo'. -/
def opsDoUptoCard : Claim7 := { stood := { row := opsDoUptoRow, standIns := [], harness := (true, "5c945d2b7a4d6165ab1bfd3ea6f79a91dcd1d4b9766ac5840dcadafa0336409b"), looks := true }, kinds := [], alts := [], laidByText := true, laidKinds := [.data, .data, .data, .data, .handle, .widerDeep, .pinned], laidTests := true, laidLooks := .later }
def OpsDoUptoCardSaid : Prop := Claim7.holds Tryz.pinned (.plain (OpenSpec.upto opsDoSpec)) opsDoUptoCard

/-- THE SECOND FORM's CARD OF 'foremanlaw.PlanFinds'. -/
def planFindsUptoCard : Claim7 := { stood := { row := planFindsUptoRow, standIns := [], harness := (true, "5c945d2b7a4d6165ab1bfd3ea6f79a91dcd1d4b9766ac5840dcadafa0336409b"), looks := true }, kinds := [], alts := [], laidByText := true, laidKinds := [.data, .data, .data, .data, .handle, .sentinel, .sentinel, .data, .data, .widerDeep, .widerDeep, .pinned], laidTests := true, laidLooks := .later }
def PlanFindsUptoCardSaid : Prop := Claim7.holds Tryz.pinned (.plain (OpenSpec.upto planFindsSpec)) planFindsUptoCard

/-- THE SECOND FORM's CARD OF 'foremanlaw.EvalRuns'. -/
def evalRunsUptoCard : Claim7 := { stood := { row := evalRunsUptoRow, standIns := [], harness := (true, "5c945d2b7a4d6165ab1bfd3ea6f79a91dcd1d4b9766ac5840dcadafa0336409b"), looks := true }, kinds := [], alts := [], laidByText := true, laidKinds := [.data, .data, .data, .data, .handle, .sentinel, .sentinel, .data, .data, .widerDeep, .widerDeep, .pinned], laidTests := true, laidLooks := .later }
def EvalRunsUptoCardSaid : Prop := Claim7.holds Tryz.pinned (.plain (OpenSpec.upto evalRunsSpec)) evalRunsUptoCard
end Rows
end Go.Proofs.YtpagiajlefejcaaGreatDoor
