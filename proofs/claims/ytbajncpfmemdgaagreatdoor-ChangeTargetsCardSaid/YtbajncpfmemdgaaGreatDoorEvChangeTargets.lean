/- Proved: the law 'transomlaw10.ChangeTargets' returns true whatever its arguments, and its arguments read behind the call as they read before. No condition. -/
import Derived.Test.YtbajncpfmemdgaaGreatDoorRows
import Derived.Test.YtbajncpfmemdgaaGreatDoorEvQ28
import Derived.Test.YtbajncpfmemdgaaGreatDoorEvLaid
import Derived.Test.YtbajncpfmemdgaaGreatDoorEvChangeTargetsFacts
import Derived.Test.YtbajncpfmemdgaaGreatDoorEvChangeTargetsFactsB
import Derived.ProofKit
import Derived.Carry
import Derived.Test.YtbajncpfmemdgaaGreatDoorCards
import Derived.Test.YtbajncpfmemdgaaGreatDoorEvTieB
import Derived.Test.YtbajncpfmemdgaaGreatDoorEvNoGo
import Derived.Test.YtbajncpfmemdgaaGreatDoorEvChangeTargetsCard
import Derived.SevenTiedAt
import Derived.LaidLaws
import Derived.LaidHandle
import Derived.FnData
import Derived.JoinedOf
import Derived.Stop.Joined
namespace Go.Proofs.YtbajncpfmemdgaaGreatDoor
open Go.ChangeShapes Go.WideShapes Go.ChangeAt Go.RowKit
theorem xd:ownKnob Tryz.prog.godebug=none:=by kernel_rfl
theorem sF:laidOutB Tryz.prog=true:=laidOut
theorem kG:Tryz.f5.params.toList=[42,53]:=by kernel_rfl
theorem uy:∀t∈Tryz.f5.params.toList,Tryz.prog.readableRec t=true∧t<Tryz.prog.types.size:=by
 rw[kG]
 intro t ht
 simp only[List.mem_cons,List.not_mem_nil,or_false] at ht
 rcases ht with rfl | rfl
 ·exact⟨by kernel_rfl,of_decide_eq_true (by kernel_rfl)⟩
 ·exact⟨by kernel_rfl,of_decide_eq_true (by kernel_rfl)⟩
noncomputable def kY (os:Os):World:=
 let w0:=World.holding Tryz.prog os ⟨#[],#[],[]⟩
 {w0 with heap:=w0.heap.modify 0 fun
   | .cells _ t frozen=>.cells #[.iface 292 (.agg #[typeHandle Tryz.prog 179])] t frozen
   | o=>o}
theorem sG (os:Os) (args:Array Value):laidMetH Tryz.prog Rows.changeTargetsRow.laid ((kY os).forCall (fun _ _=>0) ⟨#[],args,[]⟩).memory:=
 laidMetH_of_parts (laidMet_nil _ _) (by kernel_rfl)
theorem yx:Tryz.prog.globalNamed "errors.errorType"=some 0:=by kernel_rfl
theorem yy:(Tryz.prog.cutTypes.find? (·.1== "internal/reflectlite.rtype")).map (·.2)=some 292:=by kernel_rfl
theorem xe:((List.range 363).filter fun t=>Tryz.prog.rowNamed t [101,114,114,111,114])=[179]:=by kernel_rfl
theorem wB:Tryz.prog.types.size=363:=by kernel_rfl
theorem uz {W:World} (h:laidMetH Tryz.prog Rows.changeTargetsRow.laid W):W.cell? ⟨0,0,none⟩=some (.iface 292 (.agg #[.pointer (some ⟨3,179,none⟩)])):=by
 have h':laidMet Tryz.prog [] W∧handlesMet Tryz.prog Rows.changeTargetsRow.laid W:=h
 obtain⟨name,u,ty,e1,e2,e3,e4,e5⟩:=h'.2 _ (List.mem_singleton.2 rfl)
 have en:name=[101,114,114,111,114]:=(Option.some.inj e1).symm
 subst en
 obtain rfl:=Option.some.inj (yy.symm.trans e2)
 have hm:ty∈(List.range 363).filter fun t=>Tryz.prog.rowNamed t [101,114,114,111,114]:=List.mem_filter.2 ⟨List.mem_range.2 (by rw[←wB];exact e3),e4⟩
 rw[xe] at hm
 obtain rfl:=List.mem_singleton.1 hm
 have hh:typeHandle Tryz.prog 179=.pointer (some ⟨3,179,none⟩):=by kernel_rfl
 rw[hh] at e5
 simpa using World.var?_cell yx e5 0
set_option maxRecDepth 100000 in
theorem uA (os:Os) (started:os.Started) (H:Type) (enc:TypeId×Value→H):
  ReturnsInHanded {} Tryz.checked os 5 .any (fun w args=>(Rows.changeTargetsSpec.pre enc Tryz.prog Tryz.f5 Rows.changeTargetsRow.domain false w args∧laidMetH Tryz.prog Rows.changeTargetsRow.laid w)∧sizedMet enc Tryz.prog Tryz.f5 (OpenSpec.ofChange Rows.changeTargetsSpec) false w args)
   (Rows.changeTargetsSpec.post enc Tryz.prog Tryz.f5 false true false false):=by
 refine returnsInHanded_of_change_and (C:=Tryz.checked) (X:=fun w _=>laidMetH Tryz.prog Rows.changeTargetsRow.laid w) (fun _ _ _ hh h=>h.of_heap hh) xd started (by kernel_rfl) Tryz.func5
  (ChangeSpec.witness_at (enc:=enc) (C:=Tryz.checked) (os:=os) (X:=fun w _=>laidMetH Tryz.prog Rows.changeTargetsRow.laid w) false (kY os) #[((Tryz.prog.info? 42).bind (·.zero)).getD (.bool true),((Tryz.prog.info? 53).bind (·.zero)).getD (.bool true)] 8 rfl (by kernel_rfl) (by kernel_rfl) (by kernel_rfl) (by kernel_rfl) (by kernel_rfl) (sG os _)) ?_
 intro W base args ds gs before adL hW _ _ hL _
 have K0:∀(j:Nat) t v,Tryz.f5.params[j]? =some t→args[j]? =some v→Value.okWide Tryz.prog W .any base t v:=adL
 have hW':=hW
 obtain⟨p,q,hA0,hV,rfl,CE,XM⟩:=hW
 have hA:DataW.TrodAll enc Tryz.prog W 0 (fun _=>true) true Tryz.f5.params.toList args.toList ds p:=hA0
 have gY:=hA
 rw[kG] at gY
 obtain⟨v0,v1,d0,d1,p0,p1,nV,rfl,rfl,hT0,hT1⟩:=trodAll_two gY
 subst nV
 obtain⟨rfl,rfl⟩:=trodVars_none hV
 simp only[List.append_nil] at hW'
 have adM:v0.oneCell'=true:=by
  have hs:(Ev.jO Tryz.prog 42).1=false:=by kernel_rfl
  rcases Ev.nX (K0 0 42 v0 (by kernel_rfl) rfl) with ⟨cs,_,h,_⟩ | ⟨_,_,h,_⟩
  ·rw[hs] at h;cases h
  ·exact h
 obtain⟨c1,rfl⟩:∃cs,v1=.agg ⟨cs⟩:=by
  have hs:(Ev.jO Tryz.prog 53).1=true:=by kernel_rfl
  rcases Ev.nX (K0 1 53 v1 (by kernel_rfl) rfl) with ⟨cs,h,_,_⟩ | ⟨h,_⟩
  ·exact⟨cs,h⟩
  ·rw[hs] at h;cases h
 have hc:Calls Tryz.prog 5 #[v0,.agg ⟨c1⟩] W fun e W'=>e=.returned (.bool true)∧Below W.heap.size W W':=uO (uz hL) ⟨adM,hT0⟩ hT1
 refine hc.mono fun e W' ⟨he,hb⟩=>?_
 subst he
 refine⟨_,rfl,?_⟩
 have bE:∀x∈p0++p1,x.block<W.heap.size:=fun x hx=>by simpa using hW'.lt x hx
 refine⟨_,_,p0++p1,[],p0++p1,[],hW',?_,?_,rfl,World.keptBut_mono (fun x hx=>⟨hx,Or.inr (Or.inl hx)⟩) (hb.frame (·∈p0++p1)),fun h=>by cases h⟩
 ·exact trodAll_mk1 (shut_bool (by kernel_rfl) true)
 ·exact Ev.uL sF hb uy hA bE
set_option maxRecDepth 100000 in
theorem uB:joinedFacts Tryz.checked.prog 5 Tryz.f5 Rows.changeTargetsSpec Rows.changeTargetsRow=true:=by
 unfold joinedFacts
 simp only[Bool.and_eq_true]
 exact⟨⟨⟨⟨⟨⟨⟨⟨⟨⟨⟨⟨⟨⟨⟨⟨⟨⟨⟨⟨⟨⟨⟨⟨⟨⟨⟨⟨⟨⟨⟨uP,laidOut⟩,S9⟩,uQ⟩,uR⟩,uS⟩,uT⟩,uU⟩,uV⟩,uW⟩,tX⟩,tY⟩,tZ⟩,ua⟩,ub⟩,uc⟩,ud⟩,ue⟩,uf⟩,ug⟩,uh⟩,ui⟩,uj⟩,uk⟩,um⟩,uo⟩,uq⟩,ur⟩,uu⟩,uv⟩,uw⟩,ux⟩
theorem u3:Rows.ChangeTargetsSaid:=
 OpenClaim.holds_of_wide 5 Tryz.f5 rfl rfl rfl rfl rfl rfl rfl ⟨rfl,rfl,rfl,rfl,rfl⟩ rfl rfl rfl rfl rfl (by kernel_rfl) Tryz.func5 uB
  (of_decide_eq_true (by kernel_rfl)) (by unfold Func.isWrapper;first | (rw[if_pos (by decide+kernel)];kernel_rfl) | (rw[if_neg (by decide+kernel)];exact⟨rfl,rfl⟩))
  (fun os started H enc _=>uA os started H enc)
theorem xf:Rows.changeTargetsRow.laidByTextAt .later Tryz.pinned [.handle] true:=OpenClaim.laidByTextAt_later rfl rfl abU adG
theorem changeTargetsCard_holds:Rows.ChangeTargetsCardSaid:=
 Claim7.holds_tied_plain_at .later [] [.handle] true (true,"d6c19baefbe47bb8997dd6bb8371383e2aad68d5bd29c1f2a28d74dab8262904") true
  u3 (fun _ h=>by cases h) uX (fun _ h=>by cases h) xf rfl ⟨rfl,rfl⟩ uY rfl
  (fun f fn hf yY=>by
   obtain rfl:f=5:=Option.some.inj (u1.symm.trans hf) |>.symm
   obtain rfl:fn=Tryz.f5:=(Option.some.inj (Tryz.func5.symm.trans yY)).symm
   exact⟨uZ,fun j t ht=>by
    have hm:t∈Tryz.f5.params.toList:=Array.mem_toList_iff.2 (Array.mem_of_getElem? ht)
    rw[kG] at hm
    simp only[List.mem_cons,List.not_mem_nil,or_false] at hm
    rcases hm with rfl | rfl
    ·exact sD
    ·exact sE
    ⟩)
  (aib _)
end Go.Proofs.YtbajncpfmemdgaaGreatDoor
