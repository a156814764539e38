/- The program's table of types is laid out: out of the checks that the program has passed. -/
import Derived.Test.YtbajncpfmemdgaaGreatDoorRows
import Derived.ProofKit
import Derived.JoinedOf
import Derived.ClosedOfChecked
namespace Go.Proofs.YtbajncpfmemdgaaGreatDoor
theorem laidTypes : Tryz.checked.prog.types = Tryz.checked.src.types := by kernel_rfl
theorem laidRest : (Tryz.checked.prog.globals.all (fun g => decide (g.type < Tryz.checked.prog.types.size)) && Tryz.checked.prog.funcs.all (fun f => f.params.all fun t => decide (t < Tryz.checked.prog.types.size))) = true := by kernel_rfl
theorem laidSpec : ClosedOfChecked.AllSpec Tryz.checked.prog := ClosedOfChecked.allSpec_of Tryz.checked.wellFormed laidTypes
theorem laidOut : laidOutB Tryz.checked.prog = true := ClosedOfChecked.laidOutB_of laidSpec laidRest
theorem laidMaps : mapsRowed Tryz.checked.prog = true := ClosedOfChecked.mapsRowed_of laidSpec
end Go.Proofs.YtbajncpfmemdgaaGreatDoor
