/- The closed facts of the row 'ModelBounds', each apart. -/
import Derived.Test.YtbajncpfmemdgaaGreatDoorRows
import Derived.ProofKit
import Derived.JoinedOf
namespace Go.Proofs.YtbajncpfmemdgaaGreatDoor
theorem modelBounds_fact16 : ((Rows.modelBoundsRow.loops == (Tryz.f10.params.toList ++ Rows.modelBoundsSpec.plain.varTypes Tryz.checked.prog).any (Tryz.checked.prog.loopsFrom ·))) = true := by kernel_rfl
theorem modelBounds_fact17 : ((Rows.modelBoundsRow.wideKeys == (Tryz.f10.params.toList ++ Rows.modelBoundsSpec.plain.varTypes Tryz.checked.prog ++ Tryz.f10.resultTypes.toList).any (Tryz.checked.prog.wideKeysFrom ·))) = true := by kernel_rfl
theorem modelBounds_fact18 : (Rows.modelBoundsSpec.vars.all (Tryz.checked.prog.varReadable ·)) = true := by kernel_rfl
theorem modelBounds_fact19 : (Tryz.f10.resultTypes.all (fun t => Tryz.checked.prog.readableRec t && decide (t < Tryz.checked.prog.types.size))) = true := by kernel_rfl
theorem modelBounds_fact20 : ((Rows.modelBoundsRow.ifacesOut == Tryz.f10.resultTypes.toList.any (Tryz.checked.prog.ifacesRec ·))) = true := by kernel_rfl
theorem modelBounds_fact21 : ((Rows.modelBoundsRow.loopsOut == Tryz.f10.resultTypes.toList.any (Tryz.checked.prog.loopsFrom ·))) = true := by kernel_rfl
theorem modelBounds_fact22 : ((Rows.modelBoundsRow.plainKeys == Tryz.checked.prog.plainKeys)) = true := by kernel_rfl
theorem modelBounds_fact23 : (Rows.modelBoundsRow.shortTexts.isNone) = true := by kernel_rfl
theorem modelBounds_fact24 : (Tryz.checked.prog.stopsHeard) = true := by kernel_rfl
theorem modelBounds_fact25 : (Tryz.checked.prog.mayEnter) = true := by kernel_rfl
theorem modelBounds_fact26 : ((Rows.modelBoundsRow.lifted == Tryz.checked.prog.liftsFinal)) = true := by kernel_rfl
theorem modelBounds_fact27 : ((Tryz.checked.prog.make == some Rows.modelBoundsRow.make)) = true := by kernel_rfl
theorem modelBounds_fact28 : ((Rows.modelBoundsRow.kinds == (if Rows.modelBoundsRow.domain.isEmpty then [] else Tryz.f10.params.toList.map fun t => match Tryz.checked.prog.underlying t with | some (.int k) => some k | _ => none))) = true := by kernel_rfl
theorem modelBounds_fact29 : ((Rows.modelBoundsRow.pinned == Rows.modelBoundsRow.pinnedBy)) = true := by kernel_rfl
theorem modelBounds_fact30 : ((Rows.modelBoundsRow.veiled == (Tryz.f10.params.toList ++ Rows.modelBoundsSpec.plain.varTypes Tryz.checked.prog ++ Tryz.f10.resultTypes.toList).any (Tryz.checked.prog.veiledRec ·))) = true := by kernel_rfl
theorem modelBounds_fact31 : (Rows.modelBoundsRow.veiledFits Tryz.checked.prog Tryz.f10.params.toList (Tryz.f10.params.toList ++ Rows.modelBoundsSpec.plain.varTypes Tryz.checked.prog ++ Tryz.f10.resultTypes.toList)) = true := by kernel_rfl
end Go.Proofs.YtbajncpfmemdgaaGreatDoor
