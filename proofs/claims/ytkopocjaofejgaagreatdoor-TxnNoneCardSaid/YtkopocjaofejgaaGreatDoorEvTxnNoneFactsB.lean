/- The closed facts of the row 'TxnNone', each apart. -/
import Derived.Test.YtkopocjaofejgaaGreatDoorRows
import Derived.ProofKit
import Derived.JoinedOf
namespace Go.Proofs.YtkopocjaofejgaaGreatDoor
theorem txnNone_fact16 : ((Rows.txnNoneRow.loops == (Tryz.f4.params.toList ++ Rows.txnNoneSpec.plain.varTypes Tryz.checked.prog).any (Tryz.checked.prog.loopsFrom ·))) = true := by kernel_rfl
theorem txnNone_fact17 : ((Rows.txnNoneRow.wideKeys == (Tryz.f4.params.toList ++ Rows.txnNoneSpec.plain.varTypes Tryz.checked.prog ++ Tryz.f4.resultTypes.toList).any (Tryz.checked.prog.wideKeysFrom ·))) = true := by kernel_rfl
theorem txnNone_fact18 : (Rows.txnNoneSpec.vars.all (Tryz.checked.prog.varReadable ·)) = true := by kernel_rfl
theorem txnNone_fact19 : (Tryz.f4.resultTypes.all (fun t => Tryz.checked.prog.readableRec t && decide (t < Tryz.checked.prog.types.size))) = true := by kernel_rfl
theorem txnNone_fact20 : ((Rows.txnNoneRow.ifacesOut == Tryz.f4.resultTypes.toList.any (Tryz.checked.prog.ifacesRec ·))) = true := by kernel_rfl
theorem txnNone_fact21 : ((Rows.txnNoneRow.loopsOut == Tryz.f4.resultTypes.toList.any (Tryz.checked.prog.loopsFrom ·))) = true := by kernel_rfl
theorem txnNone_fact22 : ((Rows.txnNoneRow.plainKeys == Tryz.checked.prog.plainKeys)) = true := by kernel_rfl
theorem txnNone_fact23 : (Rows.txnNoneRow.shortTexts.isNone) = true := by kernel_rfl
theorem txnNone_fact24 : (Tryz.checked.prog.stopsHeard) = true := by kernel_rfl
theorem txnNone_fact25 : (Tryz.checked.prog.mayEnter) = true := by kernel_rfl
theorem txnNone_fact26 : ((Rows.txnNoneRow.lifted == Tryz.checked.prog.liftsFinal)) = true := by kernel_rfl
theorem txnNone_fact27 : ((Tryz.checked.prog.make == some Rows.txnNoneRow.make)) = true := by kernel_rfl
theorem txnNone_fact28 : ((Rows.txnNoneRow.kinds == (if Rows.txnNoneRow.domain.isEmpty then [] else Tryz.f4.params.toList.map fun t => match Tryz.checked.prog.underlying t with | some (.int k) => some k | _ => none))) = true := by kernel_rfl
theorem txnNone_fact29 : ((Rows.txnNoneRow.pinned == Rows.txnNoneRow.pinnedBy)) = true := by kernel_rfl
theorem txnNone_fact30 : ((Rows.txnNoneRow.veiled == (Tryz.f4.params.toList ++ Rows.txnNoneSpec.plain.varTypes Tryz.checked.prog ++ Tryz.f4.resultTypes.toList).any (Tryz.checked.prog.veiledRec ·))) = true := by kernel_rfl
theorem txnNone_fact31 : (Rows.txnNoneRow.veiledFits Tryz.checked.prog Tryz.f4.params.toList (Tryz.f4.params.toList ++ Rows.txnNoneSpec.plain.varTypes Tryz.checked.prog ++ Tryz.f4.resultTypes.toList)) = true := by kernel_rfl
end Go.Proofs.YtkopocjaofejgaaGreatDoor
