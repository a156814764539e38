/- Proved: parts of the way: Laid. -/
import Derived.Test.YtbajncpfmemdgaaGreatDoorRows
import Derived.ProofKit
import Derived.JoinedOf
import Derived.ClosedOfChecked
namespace Go.Proofs.YtbajncpfmemdgaaGreatDoor
theorem ON:Tryz.checked.prog.types=Tryz.checked.src.types:=by kernel_rfl
theorem Su:(Tryz.checked.prog.globals.all (fun g=>decide (g.type<Tryz.checked.prog.types.size))&&Tryz.checked.prog.funcs.all (fun f=>f.params.all fun t=>decide (t<Tryz.checked.prog.types.size)))=true:=by kernel_rfl
theorem Ga:ClosedOfChecked.AllSpec Tryz.checked.prog:=ClosedOfChecked.allSpec_of Tryz.checked.wellFormed ON
theorem laidOut:laidOutB Tryz.checked.prog=true:=ClosedOfChecked.laidOutB_of Ga Su
theorem Sv:mapsRowed Tryz.checked.prog=true:=ClosedOfChecked.mapsRowed_of Ga
end Go.Proofs.YtbajncpfmemdgaaGreatDoor
