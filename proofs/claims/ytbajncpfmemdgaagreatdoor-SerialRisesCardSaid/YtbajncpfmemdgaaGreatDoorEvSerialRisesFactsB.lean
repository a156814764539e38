/- The closed facts of the row 'SerialRises', each apart. -/
import Derived.Test.YtbajncpfmemdgaaGreatDoorRows
import Derived.ProofKit
import Derived.JoinedOf
namespace Go.Proofs.YtbajncpfmemdgaaGreatDoor
theorem serialRises_fact16 : ((Rows.serialRisesRow.loops == (Tryz.f3.params.toList ++ Rows.serialRisesSpec.plain.varTypes Tryz.checked.prog).any (Tryz.checked.prog.loopsFrom ·))) = true := by kernel_rfl
theorem serialRises_fact17 : ((Rows.serialRisesRow.wideKeys == (Tryz.f3.params.toList ++ Rows.serialRisesSpec.plain.varTypes Tryz.checked.prog ++ Tryz.f3.resultTypes.toList).any (Tryz.checked.prog.wideKeysFrom ·))) = true := by kernel_rfl
theorem serialRises_fact18 : (Rows.serialRisesSpec.vars.all (Tryz.checked.prog.varReadable ·)) = true := by kernel_rfl
theorem serialRises_fact19 : (Tryz.f3.resultTypes.all (fun t => Tryz.checked.prog.readableRec t && decide (t < Tryz.checked.prog.types.size))) = true := by kernel_rfl
theorem serialRises_fact20 : ((Rows.serialRisesRow.ifacesOut == Tryz.f3.resultTypes.toList.any (Tryz.checked.prog.ifacesRec ·))) = true := by kernel_rfl
theorem serialRises_fact21 : ((Rows.serialRisesRow.loopsOut == Tryz.f3.resultTypes.toList.any (Tryz.checked.prog.loopsFrom ·))) = true := by kernel_rfl
theorem serialRises_fact22 : ((Rows.serialRisesRow.plainKeys == Tryz.checked.prog.plainKeys)) = true := by kernel_rfl
theorem serialRises_fact23 : (Rows.serialRisesRow.shortTexts.isNone) = true := by kernel_rfl
theorem serialRises_fact24 : (Tryz.checked.prog.stopsHeard) = true := by kernel_rfl
theorem serialRises_fact25 : (Tryz.checked.prog.mayEnter) = true := by kernel_rfl
theorem serialRises_fact26 : ((Rows.serialRisesRow.lifted == Tryz.checked.prog.liftsFinal)) = true := by kernel_rfl
theorem serialRises_fact27 : ((Tryz.checked.prog.make == some Rows.serialRisesRow.make)) = true := by kernel_rfl
theorem serialRises_fact28 : ((Rows.serialRisesRow.kinds == (if Rows.serialRisesRow.domain.isEmpty then [] else Tryz.f3.params.toList.map fun t => match Tryz.checked.prog.underlying t with | some (.int k) => some k | _ => none))) = true := by kernel_rfl
theorem serialRises_fact29 : ((Rows.serialRisesRow.pinned == Rows.serialRisesRow.pinnedBy)) = true := by kernel_rfl
theorem serialRises_fact30 : ((Rows.serialRisesRow.veiled == (Tryz.f3.params.toList ++ Rows.serialRisesSpec.plain.varTypes Tryz.checked.prog ++ Tryz.f3.resultTypes.toList).any (Tryz.checked.prog.veiledRec ·))) = true := by kernel_rfl
theorem serialRises_fact31 : (Rows.serialRisesRow.veiledFits Tryz.checked.prog Tryz.f3.params.toList (Tryz.f3.params.toList ++ Rows.serialRisesSpec.plain.varTypes Tryz.checked.prog ++ Tryz.f3.resultTypes.toList)) = true := by kernel_rfl
end Go.Proofs.YtbajncpfmemdgaaGreatDoor
