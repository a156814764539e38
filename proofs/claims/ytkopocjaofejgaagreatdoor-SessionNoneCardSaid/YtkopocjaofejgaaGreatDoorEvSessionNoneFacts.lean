/- The closed facts of the row 'SessionNone', each apart. -/
import Derived.Test.YtkopocjaofejgaaGreatDoorRows
import Derived.ProofKit
import Derived.JoinedOf
namespace Go.Proofs.YtkopocjaofejgaaGreatDoor
theorem sessionNone_fact0 : (Rows.sessionNoneRow.wf (OpenSpec.ofChange Rows.sessionNoneSpec)) = true := by kernel_rfl
theorem sessionNone_fact3 : (Tryz.f5.params.all (Tryz.checked.prog.readableRec ·)) = true := by kernel_rfl
theorem sessionNone_fact4 : (namedTie Tryz.checked.prog Rows.sessionNoneRow.named Rows.sessionNoneSpec.vars) = true := by kernel_rfl
theorem sessionNone_fact5 : ((Rows.sessionNoneRow.stops == [])) = true := by kernel_rfl
theorem sessionNone_fact6 : ((Tryz.checked.prog.stops == [])) = true := by kernel_rfl
theorem sessionNone_fact7 : ((Rows.sessionNoneRow.knobs == [])) = true := by kernel_rfl
theorem sessionNone_fact8 : ((Tryz.checked.prog.stopKnobs == [])) = true := by kernel_rfl
theorem sessionNone_fact9 : ((Rows.sessionNoneRow.inPlace == Tryz.checked.prog.inPlace 5)) = true := by kernel_rfl
theorem sessionNone_fact10 : ((Rows.sessionNoneRow.unfollowed == Tryz.checked.prog.unfollowed 5)) = true := by kernel_rfl
theorem sessionNone_fact11 : ((Rows.sessionNoneRow.recurses == Tryz.checked.prog.recurses 5)) = true := by kernel_rfl
theorem sessionNone_fact12 : ((Rows.sessionNoneRow.named == Tryz.checked.prog.varsNamed 5)) = true := by kernel_rfl
theorem sessionNone_fact13 : ((Rows.sessionNoneRow.maps == (Tryz.f5.params.toList ++ Rows.sessionNoneSpec.plain.varTypes Tryz.checked.prog).any (Tryz.checked.prog.mapsRec ·))) = true := by kernel_rfl
theorem sessionNone_fact14 : ((Rows.sessionNoneRow.ifaces == (Tryz.f5.params.toList ++ Rows.sessionNoneSpec.plain.varTypes Tryz.checked.prog).any (Tryz.checked.prog.ifacesRec ·))) = true := by kernel_rfl
theorem sessionNone_fact15 : ((Rows.sessionNoneRow.mapsOut == Tryz.checked.prog.mapsAmong Tryz.f5.resultTypes.toList)) = true := by kernel_rfl
end Go.Proofs.YtkopocjaofejgaaGreatDoor
