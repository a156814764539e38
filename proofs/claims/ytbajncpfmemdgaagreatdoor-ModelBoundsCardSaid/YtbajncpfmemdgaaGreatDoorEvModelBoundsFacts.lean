/- The closed facts of the row 'ModelBounds', each apart. -/
import Derived.Test.YtbajncpfmemdgaaGreatDoorRows
import Derived.ProofKit
import Derived.JoinedOf
namespace Go.Proofs.YtbajncpfmemdgaaGreatDoor
theorem modelBounds_fact0 : (Rows.modelBoundsRow.wf (OpenSpec.ofChange Rows.modelBoundsSpec)) = true := by kernel_rfl
theorem modelBounds_fact3 : (Tryz.f10.params.all (Tryz.checked.prog.readableRec ·)) = true := by kernel_rfl
theorem modelBounds_fact4 : (namedTie Tryz.checked.prog Rows.modelBoundsRow.named Rows.modelBoundsSpec.vars) = true := by kernel_rfl
theorem modelBounds_fact5 : ((Rows.modelBoundsRow.stops == [])) = true := by kernel_rfl
theorem modelBounds_fact6 : ((Tryz.checked.prog.stops == [])) = true := by kernel_rfl
theorem modelBounds_fact7 : ((Rows.modelBoundsRow.knobs == [])) = true := by kernel_rfl
theorem modelBounds_fact8 : ((Tryz.checked.prog.stopKnobs == [])) = true := by kernel_rfl
theorem modelBounds_fact9 : ((Rows.modelBoundsRow.inPlace == Tryz.checked.prog.inPlace 10)) = true := by kernel_rfl
theorem modelBounds_fact10 : ((Rows.modelBoundsRow.unfollowed == Tryz.checked.prog.unfollowed 10)) = true := by kernel_rfl
theorem modelBounds_fact11 : ((Rows.modelBoundsRow.recurses == Tryz.checked.prog.recurses 10)) = true := by kernel_rfl
theorem modelBounds_fact12 : ((Rows.modelBoundsRow.named == Tryz.checked.prog.varsNamed 10)) = true := by kernel_rfl
theorem modelBounds_fact13 : ((Rows.modelBoundsRow.maps == (Tryz.f10.params.toList ++ Rows.modelBoundsSpec.plain.varTypes Tryz.checked.prog).any (Tryz.checked.prog.mapsRec ·))) = true := by kernel_rfl
theorem modelBounds_fact14 : ((Rows.modelBoundsRow.ifaces == (Tryz.f10.params.toList ++ Rows.modelBoundsSpec.plain.varTypes Tryz.checked.prog).any (Tryz.checked.prog.ifacesRec ·))) = true := by kernel_rfl
theorem modelBounds_fact15 : ((Rows.modelBoundsRow.mapsOut == Tryz.checked.prog.mapsAmong Tryz.f10.resultTypes.toList)) = true := by kernel_rfl
end Go.Proofs.YtbajncpfmemdgaaGreatDoor
