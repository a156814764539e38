/- The closed facts of the row 'SerialRises', each apart. -/
import Derived.Test.YtbajncpfmemdgaaGreatDoorRows
import Derived.ProofKit
import Derived.JoinedOf
namespace Go.Proofs.YtbajncpfmemdgaaGreatDoor
theorem serialRises_fact0 : (Rows.serialRisesRow.wf (OpenSpec.ofChange Rows.serialRisesSpec)) = true := by kernel_rfl
theorem serialRises_fact3 : (Tryz.f3.params.all (Tryz.checked.prog.readableRec ·)) = true := by kernel_rfl
theorem serialRises_fact4 : (namedTie Tryz.checked.prog Rows.serialRisesRow.named Rows.serialRisesSpec.vars) = true := by kernel_rfl
theorem serialRises_fact5 : ((Rows.serialRisesRow.stops == [])) = true := by kernel_rfl
theorem serialRises_fact6 : ((Tryz.checked.prog.stops == [])) = true := by kernel_rfl
theorem serialRises_fact7 : ((Rows.serialRisesRow.knobs == [])) = true := by kernel_rfl
theorem serialRises_fact8 : ((Tryz.checked.prog.stopKnobs == [])) = true := by kernel_rfl
theorem serialRises_fact9 : ((Rows.serialRisesRow.inPlace == Tryz.checked.prog.inPlace 3)) = true := by kernel_rfl
theorem serialRises_fact10 : ((Rows.serialRisesRow.unfollowed == Tryz.checked.prog.unfollowed 3)) = true := by kernel_rfl
theorem serialRises_fact11 : ((Rows.serialRisesRow.recurses == Tryz.checked.prog.recurses 3)) = true := by kernel_rfl
theorem serialRises_fact12 : ((Rows.serialRisesRow.named == Tryz.checked.prog.varsNamed 3)) = true := by kernel_rfl
theorem serialRises_fact13 : ((Rows.serialRisesRow.maps == (Tryz.f3.params.toList ++ Rows.serialRisesSpec.plain.varTypes Tryz.checked.prog).any (Tryz.checked.prog.mapsRec ·))) = true := by kernel_rfl
theorem serialRises_fact14 : ((Rows.serialRisesRow.ifaces == (Tryz.f3.params.toList ++ Rows.serialRisesSpec.plain.varTypes Tryz.checked.prog).any (Tryz.checked.prog.ifacesRec ·))) = true := by kernel_rfl
theorem serialRises_fact15 : ((Rows.serialRisesRow.mapsOut == Tryz.checked.prog.mapsAmong Tryz.f3.resultTypes.toList)) = true := by kernel_rfl
end Go.Proofs.YtbajncpfmemdgaaGreatDoor
