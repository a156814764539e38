/- The law 'transomlaw34.GarbageNone', reckoned: it returns true, whatever its arguments' cells. -/
import Derived.Test.YtkaknfocnecckaaRows
import Derived.Test.YtkaknfocnecckaaEvArgs
import Derived.ProofKit
import Derived.Carry
namespace Go.Proofs.Ytkaknfocnecckaa
open Go.ChangeShapes Go.WideShapes Go.ChangeAt Go.RowKit

theorem mixed : Try.prog.follows .mixedOrders = true := by kernel_rfl
theorem Try.own : ownKnob Try.prog.godebug = none := by kernel_rfl
theorem Try.laidOut : laidOutB Try.prog = true := by kernel_rfl

noncomputable def body3 : Code := (Try.f3.body).getD .skip

/-- A deed of which nothing is known; a migration of which its sources are known. -/
noncomputable def gnArgs (from_ : Ev.V) : List Ev.V := [.agg (Ev.anys 0 5), .agg (Ev.anys 5 19 ++ [from_, .any 25, .any 26])]
/-- One block is known: where the sources lie. -/
noncomputable def st1 : Ev.St := ⟨.leaf, 1⟩

open Ev in
set_option maxRecDepth 100000 in
theorem garbageNone_some (n cap : Nat) : CallW Try.prog 3 (gnArgs (.slice 0 0 n cap true 5)) (fun v _ => v = .bool true) st1 := by
  refine CallW.code (fn := Try.f3) (c := .seq (seqL body3) (.seq (seqL (seqR body3)) (.seq (seqL (seqR (seqR body3))) (seqR (seqR (seqR body3)))))) (by kernel_rfl) (by kernel_rfl) (by kernel_rfl) ?_
  refine .seq (.of_wp ?_)
  refine OkP.mk' rfl ?_
  refine OkP.mk' rfl ?_
  refine .seq (.of_wp ?_)
  refine CodeW.seq (.of_wp ?_)
  refine OkP.mk' rfl ?_
  refine OkP.mk' rfl ?_
  refine OkP.mk' rfl ?_
  refine CondP.mk (fun h => ?_) (fun h => ?_)
  · refine CallW.mono (CallW.of_true 100000 (by kernel_rfl)) fun v σ hv => ?_
    subst hv
    exact rfl
  · exact CodeW.of_true 100000 (by kernel_rfl)

theorem garbageNone_nil : Ev.CallW Try.prog 3 (gnArgs .nilslice) (fun v _ => v = .bool true) Ev.start := Ev.CallW.of_true 100000 (by kernel_rfl)

end Go.Proofs.Ytkaknfocnecckaa
