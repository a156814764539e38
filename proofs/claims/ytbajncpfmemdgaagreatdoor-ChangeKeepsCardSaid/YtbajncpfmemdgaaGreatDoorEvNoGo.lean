/- Proved: parts of the way: NoGo. -/
import Derived.Test.YtbajncpfmemdgaaGreatDoorRows
import Derived.ProofKit
import Derived.JoinedOf
import Derived.SevenTiedAt
namespace Go.Proofs.YtbajncpfmemdgaaGreatDoor
open Go
theorem G0:Tryz.pinned.checked.prog.funcs.any Func.goes=false:=by kernel_rfl
theorem AZ (f:FuncId):Tryz.pinned.checked.prog.goes f=false:=by
 unfold Program.goes
 rw[G0,Bool.and_false,Bool.or_false,List.any_eq_false]
 intro g _ h
 cases hg:Tryz.pinned.checked.prog.funcs[g]? with
 | none=>rw[hg] at h;cases h
 | some fn=>
  rw[hg] at h
  have:=Array.any_eq_false.1 G0
  obtain⟨hi,he⟩:=Array.getElem?_eq_some_iff.1 hg
  exact this g hi (by rw[he];exact h)
theorem abG (c:OpenClaim):false=c.goesBy Tryz.pinned.checked.prog:=by
 unfold OpenClaim.goesBy Program.goesAt Program.goesFrom
 have h1:∀o:Option FuncId,o.any Tryz.pinned.checked.prog.goes=false:=by
  intro o
  cases o with
  | none=>exact Option.any_none
  | some f=>rw[Option.any_some];exact AZ f
 have h2:Tryz.pinned.checked.prog.inits.toList.any Tryz.pinned.checked.prog.goes=false:=List.any_eq_false.2 fun f _ h=>by rw[AZ f] at h;cases h
 rw[h1,h2,Bool.false_or]
 generalize c.start=s
 cases s<;>exact Eq.refl false
end Go.Proofs.YtbajncpfmemdgaaGreatDoor
