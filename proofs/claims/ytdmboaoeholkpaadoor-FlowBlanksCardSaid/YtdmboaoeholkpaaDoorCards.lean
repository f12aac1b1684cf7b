/-
  DERIVED. GIVEN WITH THE SEED: THE CARDS: each row of YtdmboaoeholkpaaDoorRows.lean that lists a variable, with what it lists TIED to the program's text (the seventh form; the later family's looks); each row that meets fmt, with fmt's text TOLD by the authors' own Lean function (tested against real Go, not proved from fmt's source: count such statements apart). THE CARD IS WHAT COUNTS. Prove the row's statement (the work); the ties are given (YtdmboaoeholkpaaDoorTie.lean); close each card by the builder's one call (the guide's Derived/Test/ToyasCard.lean, 'card_holds'). Laid BY PROGRAM, IN A SANDBOX (cutbox-door.mjs). By AI agents, Wed Nov 11 2026. No macro, syntax, notation, axiom, sorry.
-/
import Derived.Test.YtdmboaoeholkpaaDoorRows
import GoSem.ClaimSeven
namespace Go.Proofs.YtdmboaoeholkpaaDoor
namespace Rows

/-- THE TIED CARD OF 'foremankeep.FlowBack'. -/
def flowBackCard : Claim7 := { stood := { row := flowBackRow, standIns := [], harness := (true, "19840e64dd3837426ba18b24e05ed4a325f540d3b1fd5562ae373e19d566f191"), looks := true }, kinds := [], alts := [], laidByText := true, laidKinds := [.data, .data, .data, .sentinel, .sentinel, .data, .widerDeep], laidTests := true, laidLooks := .later }
def FlowBackCardSaid : Prop := Claim7.holds Tryd.pinned (.plain (OpenSpec.ofChange flowBackSpec)) flowBackCard

/-- THE TIED CARD OF 'foremankeep.FlowBlanks'. -/
def flowBlanksCard : Claim7 := { stood := { row := flowBlanksRow, standIns := [], harness := (true, "19840e64dd3837426ba18b24e05ed4a325f540d3b1fd5562ae373e19d566f191"), looks := true }, kinds := [], alts := [], laidByText := true, laidKinds := [.data, .data, .data, .sentinel, .sentinel, .data, .widerDeep], laidTests := true, laidLooks := .later }
def FlowBlanksCardSaid : Prop := Claim7.holds Tryd.pinned (.plain (OpenSpec.ofChange flowBlanksSpec)) flowBlanksCard

/-- THE SECOND FORM's CARD OF 'foremankeep.FlowBack'. -/
def flowBackUptoCard : Claim7 := { stood := { row := flowBackUptoRow, standIns := [], harness := (true, "19840e64dd3837426ba18b24e05ed4a325f540d3b1fd5562ae373e19d566f191"), looks := true }, kinds := [], alts := [], laidByText := true, laidKinds := [.data, .data, .data, .sentinel, .sentinel, .data, .widerDeep], laidTests := true, laidLooks := .later }
def FlowBackUptoCardSaid : Prop := Claim7.holds Tryd.pinned (.plain (OpenSpec.upto flowBackSpec)) flowBackUptoCard

/-- THE SECOND FORM's CARD OF 'foremankeep.FlowBlanks'. -/
def flowBlanksUptoCard : Claim7 := { stood := { row := flowBlanksUptoRow, standIns := [], harness := (true, "19840e64dd3837426ba18b24e05ed4a325f540d3b1fd5562ae373e19d566f191"), looks := true }, kinds := [], alts := [], laidByText := true, laidKinds := [.data, .data, .data, .sentinel, .sentinel, .data, .widerDeep], laidTests := true, laidLooks := .later }
def FlowBlanksUptoCardSaid : Prop := Claim7.holds Tryd.pinned (.plain (OpenSpec.upto flowBlanksSpec)) flowBlanksUptoCard
end Rows
end Go.Proofs.YtdmboaoeholkpaaDoor
