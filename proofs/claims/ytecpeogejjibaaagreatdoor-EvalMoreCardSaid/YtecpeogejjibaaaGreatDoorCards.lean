/-
  DERIVED. GIVEN WITH THE SEED: THE CARDS: each row of YtecpeogejjibaaaGreatDoorRows.lean that lists a variable, with what it lists TIED to the program's text (the seventh form; the later family's looks); each row that meets fmt, with fmt's text TOLD by the authors' own Lean function (tested against real Go, not proved from fmt's source: count such statements apart). THE CARD IS WHAT COUNTS. Prove the row's statement (the work); the ties are given (YtecpeogejjibaaaGreatDoorTie.lean); close each card by the builder's one call (the guide's Derived/Test/ToyasCard.lean, 'card_holds'). Laid BY PROGRAM, IN A SANDBOX (cutbox-door.mjs). By AI agents, Wed Nov 11 2026. No macro, syntax, notation, axiom, sorry.
-/
import Derived.Test.YtecpeogejjibaaaGreatDoorRows
import GoSem.ClaimSeven
namespace Go.Proofs.YtecpeogejjibaaaGreatDoor
namespace Rows

/-- THE TIED CARD OF 'foremankeep.EvalTurns'. -/
def evalTurnsCard : Claim7 := { stood := { row := evalTurnsRow, standIns := [], harness := (true, "a396098812d7b72f93aed38f1e9446436a3b15aec84b97ee0b9d5477418b6ed0"), looks := true }, kinds := [], alts := [], laidByText := true, laidKinds := [.data, .data, .data, .data, .handle, .sentinel, .sentinel, .widerDeep, .data, .widerDeep, .widerDeep, .pinned], laidTests := true, laidLooks := .later }
def EvalTurnsCardSaid : Prop := Claim7.holds Tryz.pinned (.plain (OpenSpec.ofChange evalTurnsSpec)) evalTurnsCard

/-- THE TIED CARD OF 'foremankeep.EvalMore'. -/
def evalMoreCard : Claim7 := { stood := { row := evalMoreRow, standIns := [], harness := (true, "a396098812d7b72f93aed38f1e9446436a3b15aec84b97ee0b9d5477418b6ed0"), looks := true }, kinds := [], alts := [], laidByText := true, laidKinds := [.data, .data, .data, .data, .handle, .sentinel, .sentinel, .widerDeep, .data, .widerDeep, .widerDeep, .pinned], laidTests := true, laidLooks := .later }
def EvalMoreCardSaid : Prop := Claim7.holds Tryz.pinned (.plain (OpenSpec.ofChange evalMoreSpec)) evalMoreCard

/-- THE SECOND FORM's CARD OF 'foremankeep.EvalTurns'. -/
def evalTurnsUptoCard : Claim7 := { stood := { row := evalTurnsUptoRow, standIns := [], harness := (true, "a396098812d7b72f93aed38f1e9446436a3b15aec84b97ee0b9d5477418b6ed0"), looks := true }, kinds := [], alts := [], laidByText := true, laidKinds := [.data, .data, .data, .data, .handle, .sentinel, .sentinel, .widerDeep, .data, .widerDeep, .widerDeep, .pinned], laidTests := true, laidLooks := .later }
def EvalTurnsUptoCardSaid : Prop := Claim7.holds Tryz.pinned (.plain (OpenSpec.upto evalTurnsSpec)) evalTurnsUptoCard

/-- THE SECOND FORM's CARD OF 'foremankeep.EvalMore'. -/
def evalMoreUptoCard : Claim7 := { stood := { row := evalMoreUptoRow, standIns := [], harness := (true, "a396098812d7b72f93aed38f1e9446436a3b15aec84b97ee0b9d5477418b6ed0"), looks := true }, kinds := [], alts := [], laidByText := true, laidKinds := [.data, .data, .data, .data, .handle, .sentinel, .sentinel, .widerDeep, .data, .widerDeep, .widerDeep, .pinned], laidTests := true, laidLooks := .later }
def EvalMoreUptoCardSaid : Prop := Claim7.holds Tryz.pinned (.plain (OpenSpec.upto evalMoreSpec)) evalMoreUptoCard
end Rows
end Go.Proofs.YtecpeogejjibaaaGreatDoor
