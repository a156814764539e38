/- The closed facts of the row 'SessionNone', each apart. -/
import Derived.Test.YtkopocjaofejgaaGreatDoorRows
import Derived.ProofKit
import Derived.JoinedOf
namespace Go.Proofs.YtkopocjaofejgaaGreatDoor
theorem sessionNone_fact16 : ((Rows.sessionNoneRow.loops == (Tryz.f5.params.toList ++ Rows.sessionNoneSpec.plain.varTypes Tryz.checked.prog).any (Tryz.checked.prog.loopsFrom ·))) = true := by kernel_rfl
theorem sessionNone_fact17 : ((Rows.sessionNoneRow.wideKeys == (Tryz.f5.params.toList ++ Rows.sessionNoneSpec.plain.varTypes Tryz.checked.prog ++ Tryz.f5.resultTypes.toList).any (Tryz.checked.prog.wideKeysFrom ·))) = true := by kernel_rfl
theorem sessionNone_fact18 : (Rows.sessionNoneSpec.vars.all (Tryz.checked.prog.varReadable ·)) = true := by kernel_rfl
theorem sessionNone_fact19 : (Tryz.f5.resultTypes.all (fun t => Tryz.checked.prog.readableRec t && decide (t < Tryz.checked.prog.types.size))) = true := by kernel_rfl
theorem sessionNone_fact20 : ((Rows.sessionNoneRow.ifacesOut == Tryz.f5.resultTypes.toList.any (Tryz.checked.prog.ifacesRec ·))) = true := by kernel_rfl
theorem sessionNone_fact21 : ((Rows.sessionNoneRow.loopsOut == Tryz.f5.resultTypes.toList.any (Tryz.checked.prog.loopsFrom ·))) = true := by kernel_rfl
theorem sessionNone_fact22 : ((Rows.sessionNoneRow.plainKeys == Tryz.checked.prog.plainKeys)) = true := by kernel_rfl
theorem sessionNone_fact23 : (Rows.sessionNoneRow.shortTexts.isNone) = true := by kernel_rfl
theorem sessionNone_fact24 : (Tryz.checked.prog.stopsHeard) = true := by kernel_rfl
theorem sessionNone_fact25 : (Tryz.checked.prog.mayEnter) = true := by kernel_rfl
theorem sessionNone_fact26 : ((Rows.sessionNoneRow.lifted == Tryz.checked.prog.liftsFinal)) = true := by kernel_rfl
theorem sessionNone_fact27 : ((Tryz.checked.prog.make == some Rows.sessionNoneRow.make)) = true := by kernel_rfl
theorem sessionNone_fact28 : ((Rows.sessionNoneRow.kinds == (if Rows.sessionNoneRow.domain.isEmpty then [] else Tryz.f5.params.toList.map fun t => match Tryz.checked.prog.underlying t with | some (.int k) => some k | _ => none))) = true := by kernel_rfl
theorem sessionNone_fact29 : ((Rows.sessionNoneRow.pinned == Rows.sessionNoneRow.pinnedBy)) = true := by kernel_rfl
theorem sessionNone_fact30 : ((Rows.sessionNoneRow.veiled == (Tryz.f5.params.toList ++ Rows.sessionNoneSpec.plain.varTypes Tryz.checked.prog ++ Tryz.f5.resultTypes.toList).any (Tryz.checked.prog.veiledRec ·))) = true := by kernel_rfl
theorem sessionNone_fact31 : (Rows.sessionNoneRow.veiledFits Tryz.checked.prog Tryz.f5.params.toList (Tryz.f5.params.toList ++ Rows.sessionNoneSpec.plain.varTypes Tryz.checked.prog ++ Tryz.f5.resultTypes.toList)) = true := by kernel_rfl
end Go.Proofs.YtkopocjaofejgaaGreatDoor
