/- Proved: parts of the way: Laid. -/
import Derived.Test.YtbajncpfmemdgaaGreatDoorRows
import Derived.ProofKit
import Derived.JoinedOf
import Derived.ClosedOfChecked
namespace Go.Proofs.YtbajncpfmemdgaaGreatDoor
theorem Lw:Tryz.checked.prog.types=Tryz.checked.src.types:=by kernel_rfl
theorem Oq:(Tryz.checked.prog.globals.all (fun g=>decide (g.type<Tryz.checked.prog.types.size))&&Tryz.checked.prog.funcs.all (fun f=>f.params.all fun t=>decide (t<Tryz.checked.prog.types.size)))=true:=by kernel_rfl
theorem DJ:ClosedOfChecked.AllSpec Tryz.checked.prog:=ClosedOfChecked.allSpec_of Tryz.checked.wellFormed Lw
theorem laidOut:laidOutB Tryz.checked.prog=true:=ClosedOfChecked.laidOutB_of DJ Oq
theorem Ot:mapsRowed Tryz.checked.prog=true:=ClosedOfChecked.mapsRowed_of DJ
end Go.Proofs.YtbajncpfmemdgaaGreatDoor
