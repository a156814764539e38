/- Proved: parts of the way: ChangeKeeps. -/
import Derived.Test.YtbajncpfmemdgaaGreatDoorRows
import Derived.Test.YtbajncpfmemdgaaGreatDoorEvQ24
import Derived.Test.YtbajncpfmemdgaaGreatDoorEvLaid
import Derived.Test.YtbajncpfmemdgaaGreatDoorEvChangeKeepsFacts
import Derived.Test.YtbajncpfmemdgaaGreatDoorEvChangeKeepsFactsB
import Derived.ProofKit
import Derived.Carry
import Derived.Test.YtbajncpfmemdgaaGreatDoorCards
import Derived.Test.YtbajncpfmemdgaaGreatDoorEvTieB
import Derived.Test.YtbajncpfmemdgaaGreatDoorEvNoGo
import Derived.Test.YtbajncpfmemdgaaGreatDoorEvChangeKeepsCard
import Derived.SevenTiedAt
import Derived.LaidLaws
import Derived.LaidHandle
import Derived.FnData
import Derived.JoinedOf
import Derived.Stop.Joined
namespace Go.Proofs.YtbajncpfmemdgaaGreatDoor
open Go.ChangeShapes Go.WideShapes Go.ChangeAt Go.RowKit
theorem yP:ownKnob Tryz.prog.godebug=none:=by kernel_rfl
theorem sX:laidOutB Tryz.prog=true:=laidOut
theorem kW:Tryz.f7.params.toList=[42,53]:=by kernel_rfl
theorem uV:∀t∈Tryz.f7.params.toList,Tryz.prog.readableRec t=true∧t<Tryz.prog.types.size:=by
 rw[kW]
 intro t ht
 simp only[List.mem_cons,List.not_mem_nil,or_false] at ht
 rcases ht with rfl | rfl
 ·exact⟨by kernel_rfl,of_decide_eq_true (by kernel_rfl)⟩
 ·exact⟨by kernel_rfl,of_decide_eq_true (by kernel_rfl)⟩
noncomputable def ly (os:Os):World:=
 let w0:=World.holding Tryz.prog os ⟨#[],#[],[]⟩
 {w0 with heap:=w0.heap.modify 0 fun
   | .cells _ t frozen=>.cells #[.iface 292 (.agg #[typeHandle Tryz.prog 179])] t frozen
   | o=>o}
theorem sY (os:Os) (args:Array Value):laidMetH Tryz.prog Rows.changeKeepsRow.laid ((ly os).forCall (fun _ _=>0) ⟨#[],args,[]⟩).memory:=
 laidMetH_of_parts (laidMet_nil _ _) (by kernel_rfl)
theorem z8:Tryz.prog.globalNamed "errors.errorType"=some 0:=by kernel_rfl
theorem Aa:(Tryz.prog.cutTypes.find? (·.1== "internal/reflectlite.rtype")).map (·.2)=some 292:=by kernel_rfl
theorem yQ:((List.range 363).filter fun t=>Tryz.prog.rowNamed t [101,114,114,111,114])=[179]:=by kernel_rfl
theorem xB:Tryz.prog.types.size=363:=by kernel_rfl
theorem uW {W:World} (h:laidMetH Tryz.prog Rows.changeKeepsRow.laid W):W.cell? ⟨0,0,none⟩=some (.iface 292 (.agg #[.pointer (some ⟨3,179,none⟩)])):=by
 have h':laidMet Tryz.prog [] W∧handlesMet Tryz.prog Rows.changeKeepsRow.laid W:=h
 obtain⟨name,u,ty,e1,e2,e3,e4,e5⟩:=h'.2 _ (List.mem_singleton.2 rfl)
 have en:name=[101,114,114,111,114]:=(Option.some.inj e1).symm
 subst en
 obtain rfl:=Option.some.inj (Aa.symm.trans e2)
 have hm:ty∈(List.range 363).filter fun t=>Tryz.prog.rowNamed t [101,114,114,111,114]:=List.mem_filter.2 ⟨List.mem_range.2 (by rw[←xB];exact e3),e4⟩
 rw[yQ] at hm
 obtain rfl:=List.mem_singleton.1 hm
 have hh:typeHandle Tryz.prog 179=.pointer (some ⟨3,179,none⟩):=by kernel_rfl
 rw[hh] at e5
 simpa using World.var?_cell z8 e5 0
set_option maxRecDepth 100000 in
theorem uX (os:Os) (started:os.Started) (H:Type) (enc:TypeId×Value→H):
  ReturnsInHanded {} Tryz.checked os 7 .any (fun w args=>(Rows.changeKeepsSpec.pre enc Tryz.prog Tryz.f7 Rows.changeKeepsRow.domain false w args∧laidMetH Tryz.prog Rows.changeKeepsRow.laid w)∧sizedMet enc Tryz.prog Tryz.f7 (OpenSpec.ofChange Rows.changeKeepsSpec) false w args)
   (Rows.changeKeepsSpec.post enc Tryz.prog Tryz.f7 false true false false):=by
 refine returnsInHanded_of_change_and (C:=Tryz.checked) (X:=fun w _=>laidMetH Tryz.prog Rows.changeKeepsRow.laid w) (fun _ _ _ hh h=>h.of_heap hh) yP started (by kernel_rfl) Tryz.func7
  (ChangeSpec.witness_at (enc:=enc) (C:=Tryz.checked) (os:=os) (X:=fun w _=>laidMetH Tryz.prog Rows.changeKeepsRow.laid w) false (ly os) #[((Tryz.prog.info? 42).bind (·.zero)).getD (.bool true),((Tryz.prog.info? 53).bind (·.zero)).getD (.bool true)] 8 rfl (by kernel_rfl) (by kernel_rfl) (by kernel_rfl) (by kernel_rfl) (by kernel_rfl) (sY os _)) ?_
 intro W base args ds gs before X2 hW _ _ hL _
 have Hn:∀(j:Nat) t v,Tryz.f7.params[j]? =some t→args[j]? =some v→Value.okWide Tryz.prog W .any base t v:=X2
 have Wu:=hW
 obtain⟨p,q,hA0,hV,rfl,ue,R8⟩:=hW
 have hA:DataW.TrodAll enc Tryz.prog W 0 (fun _=>true) true Tryz.f7.params.toList args.toList ds p:=hA0
 have gq:=hA
 rw[kW] at gq
 obtain⟨v0,v1,d0,d1,p0,p1,vf,rfl,rfl,hT0,hT1⟩:=trodAll_two gq
 subst vf
 obtain⟨rfl,rfl⟩:=trodVars_none hV
 simp only[List.append_nil] at Wu
 have X5:v0.oneCell'=true:=by
  have hs:(Ev.jc Tryz.prog 42).1=false:=by kernel_rfl
  rcases Ev.mW (Hn 0 42 v0 (by kernel_rfl) rfl) with ⟨cs,_,h,_⟩ | ⟨_,_,h,_⟩
  ·rw[hs] at h;cases h
  ·exact h
 obtain⟨c1,rfl⟩:∃cs,v1=.agg ⟨cs⟩:=by
  have hs:(Ev.jc Tryz.prog 53).1=true:=by kernel_rfl
  rcases Ev.mW (Hn 1 53 v1 (by kernel_rfl) rfl) with ⟨cs,h,_,_⟩ | ⟨h,_⟩
  ·exact⟨cs,h⟩
  ·rw[hs] at h;cases h
 have hc:Calls Tryz.prog 7 #[v0,.agg ⟨c1⟩] W fun e W'=>e=.returned (.bool true)∧Below W.heap.size W W':=vN (uW hL) ⟨X5,hT0⟩ hT1
 refine hc.mono fun e W' ⟨he,hb⟩=>?_
 subst he
 refine⟨_,rfl,?_⟩
 have bB:∀x∈p0++p1,x.block<W.heap.size:=fun x hx=>by simpa using Wu.lt x hx
 refine⟨_,_,p0++p1,[],p0++p1,[],Wu,?_,?_,rfl,World.keptBut_mono (fun x hx=>⟨hx,Or.inr (Or.inl hx)⟩) (hb.frame (·∈p0++p1)),fun h=>by cases h⟩
 ·exact trodAll_mk1 (shut_bool (by kernel_rfl) true)
 ·exact Ev.sS sX hb uV hA bB
set_option maxRecDepth 100000 in
theorem uY:joinedFacts Tryz.checked.prog 7 Tryz.f7 Rows.changeKeepsSpec Rows.changeKeepsRow=true:=by
 unfold joinedFacts
 simp only[Bool.and_eq_true]
 exact⟨⟨⟨⟨⟨⟨⟨⟨⟨⟨⟨⟨⟨⟨⟨⟨⟨⟨⟨⟨⟨⟨⟨⟨⟨⟨⟨⟨⟨⟨⟨vO,laidOut⟩,Ot⟩,vP⟩,vQ⟩,vR⟩,vS⟩,vT⟩,vU⟩,vV⟩,uz⟩,uA⟩,uB⟩,uC⟩,uD⟩,uE⟩,uF⟩,uG⟩,uH⟩,uI⟩,uJ⟩,uK⟩,uL⟩,uM⟩,uN⟩,uO⟩,uP⟩,uQ⟩,uR⟩,uS⟩,uT⟩,uU⟩
theorem v7:Rows.ChangeKeepsSaid:=
 OpenClaim.holds_of_wide 7 Tryz.f7 rfl rfl rfl rfl rfl rfl rfl ⟨rfl,rfl,rfl,rfl,rfl⟩ rfl rfl rfl rfl rfl (by kernel_rfl) Tryz.func7 uY
  (of_decide_eq_true (by kernel_rfl)) (by unfold Func.isWrapper;first | (rw[if_pos (by decide+kernel)];kernel_rfl) | (rw[if_neg (by decide+kernel)];exact⟨rfl,rfl⟩))
  (fun os started H enc _=>uX os started H enc)
theorem yR:Rows.changeKeepsRow.laidByTextAt .later Tryz.pinned [.handle] true:=OpenClaim.laidByTextAt_later rfl rfl Wt XX
theorem changeKeepsCard_holds:Rows.ChangeKeepsCardSaid:=
 Claim7.holds_tied_plain_at .later [] [.handle] true (true,"d6c19baefbe47bb8997dd6bb8371383e2aad68d5bd29c1f2a28d74dab8262904") true
  v7 (fun _ h=>by cases h) vW (fun _ h=>by cases h) yR rfl ⟨rfl,rfl⟩ vX rfl
  (fun f fn hf Sl=>by
   obtain rfl:f=7:=Option.some.inj (vZ.symm.trans hf) |>.symm
   obtain rfl:fn=Tryz.f7:=(Option.some.inj (Tryz.func7.symm.trans Sl)).symm
   exact⟨vY,fun j t ht=>by
    have hm:t∈Tryz.f7.params.toList:=Array.mem_toList_iff.2 (Array.mem_of_getElem? ht)
    rw[kW] at hm
    simp only[List.mem_cons,List.not_mem_nil,or_false] at hm
    rcases hm with rfl | rfl
    ·exact sV
    ·exact sW
    ⟩)
  (abG _)
end Go.Proofs.YtbajncpfmemdgaaGreatDoor
