/- Proved: parts of the way: ChangeUndoes. -/
import Derived.Test.YtbajncpfmemdgaaGreatDoorRows
import Derived.Test.YtbajncpfmemdgaaGreatDoorEvQ24
import Derived.Test.YtbajncpfmemdgaaGreatDoorEvLaid
import Derived.Test.YtbajncpfmemdgaaGreatDoorEvChangeUndoesFacts
import Derived.Test.YtbajncpfmemdgaaGreatDoorEvChangeUndoesFactsB
import Derived.ProofKit
import Derived.Carry
import Derived.Test.YtbajncpfmemdgaaGreatDoorCards
import Derived.Test.YtbajncpfmemdgaaGreatDoorEvTieB
import Derived.Test.YtbajncpfmemdgaaGreatDoorEvNoGo
import Derived.Test.YtbajncpfmemdgaaGreatDoorEvChangeUndoesCard
import Derived.SevenTiedAt
import Derived.LaidLaws
import Derived.LaidHandle
import Derived.FnData
import Derived.JoinedOf
import Derived.Stop.Joined
namespace Go.Proofs.YtbajncpfmemdgaaGreatDoor
open Go.ChangeShapes Go.WideShapes Go.ChangeAt Go.RowKit
theorem wY:ownKnob Tryz.prog.godebug=none:=by kernel_rfl
theorem sr:laidOutB Tryz.prog=true:=laidOut
theorem jZ:Tryz.f8.params.toList=[42,53]:=by kernel_rfl
theorem sZ:∀t∈Tryz.f8.params.toList,Tryz.prog.readableRec t=true∧t<Tryz.prog.types.size:=by
 rw[jZ]
 intro t ht
 simp only[List.mem_cons,List.not_mem_nil,or_false] at ht
 rcases ht with rfl | rfl
 ·exact⟨by kernel_rfl,of_decide_eq_true (by kernel_rfl)⟩
 ·exact⟨by kernel_rfl,of_decide_eq_true (by kernel_rfl)⟩
noncomputable def kb (os:Os):World:=
 let w0:=World.holding Tryz.prog os ⟨#[],#[],[]⟩
 {w0 with heap:=w0.heap.modify 0 fun
   | .cells _ t frozen=>.cells #[.iface 292 (.agg #[typeHandle Tryz.prog 179])] t frozen
   | o=>o}
theorem su (os:Os) (args:Array Value):laidMetH Tryz.prog Rows.changeUndoesRow.laid ((kb os).forCall (fun _ _=>0) ⟨#[],args,[]⟩).memory:=
 laidMetH_of_parts (laidMet_nil _ _) (by kernel_rfl)
theorem yi:Tryz.prog.globalNamed "errors.errorType"=some 0:=by kernel_rfl
theorem yj:(Tryz.prog.cutTypes.find? (·.1== "internal/reflectlite.rtype")).map (·.2)=some 292:=by kernel_rfl
theorem wZ:((List.range 363).filter fun t=>Tryz.prog.rowNamed t [101,114,114,111,114])=[179]:=by kernel_rfl
theorem vt:Tryz.prog.types.size=363:=by kernel_rfl
theorem s0 {W:World} (h:laidMetH Tryz.prog Rows.changeUndoesRow.laid W):W.cell? ⟨0,0,none⟩=some (.iface 292 (.agg #[.pointer (some ⟨3,179,none⟩)])):=by
 have h':laidMet Tryz.prog [] W∧handlesMet Tryz.prog Rows.changeUndoesRow.laid W:=h
 obtain⟨name,u,ty,e1,e2,e3,e4,e5⟩:=h'.2 _ (List.mem_singleton.2 rfl)
 have en:name=[101,114,114,111,114]:=(Option.some.inj e1).symm
 subst en
 obtain rfl:=Option.some.inj (yj.symm.trans e2)
 have hm:ty∈(List.range 363).filter fun t=>Tryz.prog.rowNamed t [101,114,114,111,114]:=List.mem_filter.2 ⟨List.mem_range.2 (by rw[←vt];exact e3),e4⟩
 rw[wZ] at hm
 obtain rfl:=List.mem_singleton.1 hm
 have hh:typeHandle Tryz.prog 179=.pointer (some ⟨3,179,none⟩):=by kernel_rfl
 rw[hh] at e5
 simpa using World.var?_cell yi e5 0
set_option maxRecDepth 100000 in
theorem s5 (os:Os) (started:os.Started) (H:Type) (enc:TypeId×Value→H):
  ReturnsInHanded {} Tryz.checked os 8 .any (fun w args=>(Rows.changeUndoesSpec.pre enc Tryz.prog Tryz.f8 Rows.changeUndoesRow.domain false w args∧laidMetH Tryz.prog Rows.changeUndoesRow.laid w)∧sizedMet enc Tryz.prog Tryz.f8 (OpenSpec.ofChange Rows.changeUndoesSpec) false w args)
   (Rows.changeUndoesSpec.post enc Tryz.prog Tryz.f8 false true false false):=by
 refine returnsInHanded_of_change_and (C:=Tryz.checked) (X:=fun w _=>laidMetH Tryz.prog Rows.changeUndoesRow.laid w) (fun _ _ _ hh h=>h.of_heap hh) wY started (by kernel_rfl) Tryz.func8
  (ChangeSpec.witness_at (enc:=enc) (C:=Tryz.checked) (os:=os) (X:=fun w _=>laidMetH Tryz.prog Rows.changeUndoesRow.laid w) false (kb os) #[((Tryz.prog.info? 42).bind (·.zero)).getD (.bool true),((Tryz.prog.info? 53).bind (·.zero)).getD (.bool true)] 8 rfl (by kernel_rfl) (by kernel_rfl) (by kernel_rfl) (by kernel_rfl) (by kernel_rfl) (su os _)) ?_
 intro W base args ds gs before W4 hW _ _ hL _
 have GL:∀(j:Nat) t v,Tryz.f8.params[j]? =some t→args[j]? =some v→Value.okWide Tryz.prog W .any base t v:=W4
 have Vu:=hW
 obtain⟨p,q,hA0,hV,rfl,uj,Ro⟩:=hW
 have hA:DataW.TrodAll enc Tryz.prog W 0 (fun _=>true) true Tryz.f8.params.toList args.toList ds p:=hA0
 have gm:=hA
 rw[jZ] at gm
 obtain⟨v0,v1,d0,d1,p0,p1,uX,rfl,rfl,hT0,hT1⟩:=trodAll_two gm
 subst uX
 obtain⟨rfl,rfl⟩:=trodVars_none hV
 simp only[List.append_nil] at Vu
 have W5:v0.oneCell'=true:=by
  have hs:(Ev.iX Tryz.prog 42).1=false:=by kernel_rfl
  rcases Ev.mD (GL 0 42 v0 (by kernel_rfl) rfl) with ⟨cs,_,h,_⟩ | ⟨_,_,h,_⟩
  ·rw[hs] at h;cases h
  ·exact h
 obtain⟨c1,rfl⟩:∃cs,v1=.agg ⟨cs⟩:=by
  have hs:(Ev.iX Tryz.prog 53).1=true:=by kernel_rfl
  rcases Ev.mD (GL 1 53 v1 (by kernel_rfl) rfl) with ⟨cs,h,_,_⟩ | ⟨h,_⟩
  ·exact⟨cs,h⟩
  ·rw[hs] at h;cases h
 have hc:Calls Tryz.prog 8 #[v0,.agg ⟨c1⟩] W fun e W'=>e=.returned (.bool true)∧Below W.heap.size W W':=uw (s0 hL) ⟨W5,hT0⟩ hT1
 refine hc.mono fun e W' ⟨he,hb⟩=>?_
 subst he
 refine⟨_,rfl,?_⟩
 have bz:∀x∈p0++p1,x.block<W.heap.size:=fun x hx=>by simpa using Vu.lt x hx
 refine⟨_,_,p0++p1,[],p0++p1,[],Vu,?_,?_,rfl,World.keptBut_mono (fun x hx=>⟨hx,Or.inr (Or.inl hx)⟩) (hb.frame (·∈p0++p1)),fun h=>by cases h⟩
 ·exact trodAll_mk1 (shut_bool (by kernel_rfl) true)
 ·exact Ev.sB sr hb sZ hA bz
set_option maxRecDepth 100000 in
theorem s6:joinedFacts Tryz.checked.prog 8 Tryz.f8 Rows.changeUndoesSpec Rows.changeUndoesRow=true:=by
 unfold joinedFacts
 simp only[Bool.and_eq_true]
 exact⟨⟨⟨⟨⟨⟨⟨⟨⟨⟨⟨⟨⟨⟨⟨⟨⟨⟨⟨⟨⟨⟨⟨⟨⟨⟨⟨⟨⟨⟨⟨ux,laidOut⟩,NC⟩,uy⟩,uz⟩,uA⟩,uB⟩,uC⟩,uD⟩,uE⟩,sD⟩,sE⟩,sF⟩,sG⟩,sH⟩,sI⟩,sJ⟩,sK⟩,sL⟩,sM⟩,sN⟩,sO⟩,sP⟩,sQ⟩,sR⟩,sS⟩,sT⟩,sU⟩,sV⟩,sW⟩,sX⟩,sY⟩
theorem uJ:Rows.ChangeUndoesSaid:=
 OpenClaim.holds_of_wide 8 Tryz.f8 rfl rfl rfl rfl rfl rfl rfl ⟨rfl,rfl,rfl,rfl,rfl⟩ rfl rfl rfl rfl rfl (by kernel_rfl) Tryz.func8 s6
  (of_decide_eq_true (by kernel_rfl)) (by unfold Func.isWrapper;first | (rw[if_pos (by decide+kernel)];kernel_rfl) | (rw[if_neg (by decide+kernel)];exact⟨rfl,rfl⟩))
  (fun os started H enc _=>s5 os started H enc)
theorem w1:Rows.changeUndoesRow.laidByTextAt .later Tryz.pinned [.handle] true:=OpenClaim.laidByTextAt_later rfl rfl Vt WZ
theorem changeUndoesCard_holds:Rows.ChangeUndoesCardSaid:=
 Claim7.holds_tied_plain_at .later [] [.handle] true (true,"d6c19baefbe47bb8997dd6bb8371383e2aad68d5bd29c1f2a28d74dab8262904") true
  uJ (fun _ h=>by cases h) uF (fun _ h=>by cases h) w1 rfl ⟨rfl,rfl⟩ uG rfl
  (fun f fn hf RB=>by
   obtain rfl:f=8:=Option.some.inj (uI.symm.trans hf) |>.symm
   obtain rfl:fn=Tryz.f8:=(Option.some.inj (Tryz.func8.symm.trans RB)).symm
   exact⟨uH,fun j t ht=>by
    have hm:t∈Tryz.f8.params.toList:=Array.mem_toList_iff.2 (Array.mem_of_getElem? ht)
    rw[jZ] at hm
    simp only[List.mem_cons,List.not_mem_nil,or_false] at hm
    rcases hm with rfl | rfl
    ·exact so
    ·exact sq
    ⟩)
  (aaK _)
end Go.Proofs.YtbajncpfmemdgaaGreatDoor
