/- PlanFinds: what is laid. -/
import Derived.Test.YtpagiajlefejcaaGreatDoorPfiM19
import Derived.Test.YtpagiajlefejcaaGreatDoorPfiM12
import Derived.Test.YtpagiajlefejcaaGreatDoorPfiM6
import Derived.ChangeMaps5
set_option linter.unusedSimpArgs false
set_option linter.unusedVariables false
set_option maxRecDepth 100000
set_option maxHeartbeats 16000000
namespace Go.Proofs.YtpagiajlefejcaaGreatDoor
open Go.Proofs.Tryz renaming prog → zy
open _root_.List renaming mem_singleton → zD
section
open Go.RowKit Go.Shelf Go.ChangeShapes Go.WideShapes
namespace Pfi
theorem env {W:World} (h:laidMetH zy Rows.planFindsRow.laid W) (B:W.ShapedOpen zy):iv W∧gH W∧gY W∧nY W:=by
 have A:=qP (hd:=("errors.errorType",Rows.laid_errors_errorType)) (by kernel_rfl) h;exact ⟨wC (by kernel_rfl) (by kernel_rfl) (by kernel_rfl) (by kernel_rfl) (by kernel_rfl) A.1 B,wE (by kernel_rfl) A.1 B,s9 (zD.2 rfl) A.2,⟨pL (iS "foreman/ops.compares" Rows.laid_foreman_ops_compares (by kernel_rfl) A.1)⟩⟩
theorem uQ (os:Os) (args:Array Value):laidMetH zy Rows.planFindsRow.laid ((pK os).forCall (fun _ _=>0) ⟨#[],args,[]⟩).memory :=
 laidMetH_of_parts3 (fuel:=8) (laidMet_of_run' 8 (by kernel_rfl) (by kernel_rfl)) (by kernel_rfl) (by kernel_rfl)
end Pfi
end
end Go.Proofs.YtpagiajlefejcaaGreatDoor
