/- The closed facts of the row 'TxnNone', each apart. -/
import Derived.Test.YtkopocjaofejgaaGreatDoorRows
import Derived.ProofKit
import Derived.JoinedOf
namespace Go.Proofs.YtkopocjaofejgaaGreatDoor
theorem txnNone_fact0 : (Rows.txnNoneRow.wf (OpenSpec.ofChange Rows.txnNoneSpec)) = true := by kernel_rfl
theorem txnNone_fact3 : (Tryz.f4.params.all (Tryz.checked.prog.readableRec ·)) = true := by kernel_rfl
theorem txnNone_fact4 : (namedTie Tryz.checked.prog Rows.txnNoneRow.named Rows.txnNoneSpec.vars) = true := by kernel_rfl
theorem txnNone_fact5 : ((Rows.txnNoneRow.stops == [])) = true := by kernel_rfl
theorem txnNone_fact6 : ((Tryz.checked.prog.stops == [])) = true := by kernel_rfl
theorem txnNone_fact7 : ((Rows.txnNoneRow.knobs == [])) = true := by kernel_rfl
theorem txnNone_fact8 : ((Tryz.checked.prog.stopKnobs == [])) = true := by kernel_rfl
theorem txnNone_fact9 : ((Rows.txnNoneRow.inPlace == Tryz.checked.prog.inPlace 4)) = true := by kernel_rfl
theorem txnNone_fact10 : ((Rows.txnNoneRow.unfollowed == Tryz.checked.prog.unfollowed 4)) = true := by kernel_rfl
theorem txnNone_fact11 : ((Rows.txnNoneRow.recurses == Tryz.checked.prog.recurses 4)) = true := by kernel_rfl
theorem txnNone_fact12 : ((Rows.txnNoneRow.named == Tryz.checked.prog.varsNamed 4)) = true := by kernel_rfl
theorem txnNone_fact13 : ((Rows.txnNoneRow.maps == (Tryz.f4.params.toList ++ Rows.txnNoneSpec.plain.varTypes Tryz.checked.prog).any (Tryz.checked.prog.mapsRec ·))) = true := by kernel_rfl
theorem txnNone_fact14 : ((Rows.txnNoneRow.ifaces == (Tryz.f4.params.toList ++ Rows.txnNoneSpec.plain.varTypes Tryz.checked.prog).any (Tryz.checked.prog.ifacesRec ·))) = true := by kernel_rfl
theorem txnNone_fact15 : ((Rows.txnNoneRow.mapsOut == Tryz.checked.prog.mapsAmong Tryz.f4.resultTypes.toList)) = true := by kernel_rfl
end Go.Proofs.YtkopocjaofejgaaGreatDoor
