/- The closed facts of the row 'EngineNone', each apart. -/
import Derived.Test.YtkopocjaofejgaaGreatDoorRows
import Derived.ProofKit
import Derived.JoinedOf
namespace Go.Proofs.YtkopocjaofejgaaGreatDoor
theorem engineNone_fact0 : (Rows.engineNoneRow.wf (OpenSpec.ofChange Rows.engineNoneSpec)) = true := by kernel_rfl
theorem engineNone_fact3 : (Tryz.f6.params.all (Tryz.checked.prog.readableRec ·)) = true := by kernel_rfl
theorem engineNone_fact4 : (namedTie Tryz.checked.prog Rows.engineNoneRow.named Rows.engineNoneSpec.vars) = true := by kernel_rfl
theorem engineNone_fact5 : ((Rows.engineNoneRow.stops == [])) = true := by kernel_rfl
theorem engineNone_fact6 : ((Tryz.checked.prog.stops == [])) = true := by kernel_rfl
theorem engineNone_fact7 : ((Rows.engineNoneRow.knobs == [])) = true := by kernel_rfl
theorem engineNone_fact8 : ((Tryz.checked.prog.stopKnobs == [])) = true := by kernel_rfl
theorem engineNone_fact9 : ((Rows.engineNoneRow.inPlace == Tryz.checked.prog.inPlace 6)) = true := by kernel_rfl
theorem engineNone_fact10 : ((Rows.engineNoneRow.unfollowed == Tryz.checked.prog.unfollowed 6)) = true := by kernel_rfl
theorem engineNone_fact11 : ((Rows.engineNoneRow.recurses == Tryz.checked.prog.recurses 6)) = true := by kernel_rfl
theorem engineNone_fact12 : ((Rows.engineNoneRow.named == Tryz.checked.prog.varsNamed 6)) = true := by kernel_rfl
theorem engineNone_fact13 : ((Rows.engineNoneRow.maps == (Tryz.f6.params.toList ++ Rows.engineNoneSpec.plain.varTypes Tryz.checked.prog).any (Tryz.checked.prog.mapsRec ·))) = true := by kernel_rfl
theorem engineNone_fact14 : ((Rows.engineNoneRow.ifaces == (Tryz.f6.params.toList ++ Rows.engineNoneSpec.plain.varTypes Tryz.checked.prog).any (Tryz.checked.prog.ifacesRec ·))) = true := by kernel_rfl
theorem engineNone_fact15 : ((Rows.engineNoneRow.mapsOut == Tryz.checked.prog.mapsAmong Tryz.f6.resultTypes.toList)) = true := by kernel_rfl
end Go.Proofs.YtkopocjaofejgaaGreatDoor
