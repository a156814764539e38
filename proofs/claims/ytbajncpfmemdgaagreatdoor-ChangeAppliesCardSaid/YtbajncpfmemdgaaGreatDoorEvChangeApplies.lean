/- Proved: parts of the way: ChangeApplies. -/
import Derived.Test.YtbajncpfmemdgaaGreatDoorRows
import Derived.Test.YtbajncpfmemdgaaGreatDoorEvQ28
import Derived.Test.YtbajncpfmemdgaaGreatDoorEvLaid
import Derived.Test.YtbajncpfmemdgaaGreatDoorEvChangeAppliesFacts
import Derived.Test.YtbajncpfmemdgaaGreatDoorEvChangeAppliesFactsB
import Derived.ProofKit
import Derived.Carry
import Derived.Test.YtbajncpfmemdgaaGreatDoorCards
import Derived.Test.YtbajncpfmemdgaaGreatDoorEvTieB
import Derived.Test.YtbajncpfmemdgaaGreatDoorEvNoGo
import Derived.Test.YtbajncpfmemdgaaGreatDoorEvChangeAppliesCard
import Derived.SevenTiedAt
import Derived.LaidLaws
import Derived.LaidHandle
import Derived.FnData
import Derived.JoinedOf
import Derived.Stop.Joined
namespace Go.Proofs.YtbajncpfmemdgaaGreatDoor
open Go.ChangeShapes Go.WideShapes Go.ChangeAt Go.RowKit
theorem wR:ownKnob Tryz.prog.godebug=none:=by kernel_rfl
theorem rZ:laidOutB Tryz.prog=true:=laidOut
theorem kt:Tryz.f6.params.toList=[42,53,9]:=by kernel_rfl
theorem tV:∀t∈Tryz.f6.params.toList,Tryz.prog.readableRec t=true∧t<Tryz.prog.types.size:=by
 rw[kt]
 intro t ht
 simp only[List.mem_cons,List.not_mem_nil,or_false] at ht
 rcases ht with rfl | rfl | rfl
 ·exact⟨by kernel_rfl,of_decide_eq_true (by kernel_rfl)⟩
 ·exact⟨by kernel_rfl,of_decide_eq_true (by kernel_rfl)⟩
 ·exact⟨by kernel_rfl,of_decide_eq_true (by kernel_rfl)⟩
noncomputable def kJ (os:Os):World:=
 let w0:=World.holding Tryz.prog os ⟨#[],#[],[]⟩
 {w0 with heap:=w0.heap.modify 0 fun
   | .cells _ t frozen=>.cells #[.iface 292 (.agg #[typeHandle Tryz.prog 179])] t frozen
   | o=>o}
theorem sc (os:Os) (args:Array Value):laidMetH Tryz.prog Rows.changeAppliesRow.laid ((kJ os).forCall (fun _ _=>0) ⟨#[],args,[]⟩).memory:=
 laidMetH_of_parts (laidMet_nil _ _) (by kernel_rfl)
theorem ya:Tryz.prog.globalNamed "errors.errorType"=some 0:=by kernel_rfl
theorem yb:(Tryz.prog.cutTypes.find? (·.1== "internal/reflectlite.rtype")).map (·.2)=some 292:=by kernel_rfl
theorem wS:((List.range 363).filter fun t=>Tryz.prog.rowNamed t [101,114,114,111,114])=[179]:=by kernel_rfl
theorem vR:Tryz.prog.types.size=363:=by kernel_rfl
theorem tW {W:World} (h:laidMetH Tryz.prog Rows.changeAppliesRow.laid W):W.cell? ⟨0,0,none⟩=some (.iface 292 (.agg #[.pointer (some ⟨3,179,none⟩)])):=by
 have h':laidMet Tryz.prog [] W∧handlesMet Tryz.prog Rows.changeAppliesRow.laid W:=h
 obtain⟨name,u,ty,e1,e2,e3,e4,e5⟩:=h'.2 _ (List.mem_singleton.2 rfl)
 have en:name=[101,114,114,111,114]:=(Option.some.inj e1).symm
 subst en
 obtain rfl:=Option.some.inj (yb.symm.trans e2)
 have hm:ty∈(List.range 363).filter fun t=>Tryz.prog.rowNamed t [101,114,114,111,114]:=List.mem_filter.2 ⟨List.mem_range.2 (by rw[←vR];exact e3),e4⟩
 rw[wS] at hm
 obtain rfl:=List.mem_singleton.1 hm
 have hh:typeHandle Tryz.prog 179=.pointer (some ⟨3,179,none⟩):=by kernel_rfl
 rw[hh] at e5
 simpa using World.var?_cell ya e5 0
set_option maxRecDepth 100000 in
theorem tX (os:Os) (started:os.Started) (H:Type) (enc:TypeId×Value→H):
  ReturnsInHanded {} Tryz.checked os 6 .any (fun w args=>(Rows.changeAppliesSpec.pre enc Tryz.prog Tryz.f6 Rows.changeAppliesRow.domain false w args∧laidMetH Tryz.prog Rows.changeAppliesRow.laid w)∧sizedMet enc Tryz.prog Tryz.f6 (OpenSpec.ofChange Rows.changeAppliesSpec) false w args)
   (Rows.changeAppliesSpec.post enc Tryz.prog Tryz.f6 false true false false):=by
 refine returnsInHanded_of_change_and (C:=Tryz.checked) (X:=fun w _=>laidMetH Tryz.prog Rows.changeAppliesRow.laid w) (fun _ _ _ hh h=>h.of_heap hh) wR started (by kernel_rfl) Tryz.func6
  (ChangeSpec.witness_at (enc:=enc) (C:=Tryz.checked) (os:=os) (X:=fun w _=>laidMetH Tryz.prog Rows.changeAppliesRow.laid w) false (kJ os) #[((Tryz.prog.info? 42).bind (·.zero)).getD (.bool true),((Tryz.prog.info? 53).bind (·.zero)).getD (.bool true),((Tryz.prog.info? 9).bind (·.zero)).getD (.bool true)] 8 rfl (by kernel_rfl) (by kernel_rfl) (by kernel_rfl) (by kernel_rfl) (by kernel_rfl) (sc os _)) ?_
 intro W base args ds gs before adq hW _ _ hL _
 have DA:∀(j:Nat) t v,Tryz.f6.params[j]? =some t→args[j]? =some v→Value.okWide Tryz.prog W .any base t v:=adq
 have hW':=hW
 obtain⟨p,q,hA0,hV,rfl,vA,W3⟩:=hW
 have hA:DataW.TrodAll enc Tryz.prog W 0 (fun _=>true) true Tryz.f6.params.toList args.toList ds p:=hA0
 have gN:=hA
 rw[kt] at gN
 obtain⟨v0,v1,v2,d0,d1,d2,p0,p1,p2,wb,rfl,rfl,hT0,hT1,hT2⟩:=trodAll_three gN
 subst wb
 obtain⟨rfl,rfl⟩:=trodVars_none hV
 simp only[List.append_nil] at hW'
 have adr:v0.oneCell'=true:=by
  have hs:(Ev.mq Tryz.prog 42).1=false:=by kernel_rfl
  rcases Ev.qO (DA 0 42 v0 (by kernel_rfl) rfl) with ⟨cs,_,h,_⟩ | ⟨_,_,h,_⟩
  ·rw[hs] at h;cases h
  ·exact h
 obtain⟨c1,rfl⟩:∃cs,v1=.agg ⟨cs⟩:=by
  have hs:(Ev.mq Tryz.prog 53).1=true:=by kernel_rfl
  rcases Ev.qO (DA 1 53 v1 (by kernel_rfl) rfl) with ⟨cs,h,_,_⟩ | ⟨h,_⟩
  ·exact⟨cs,h⟩
  ·rw[hs] at h;cases h
 have ads:v2.oneCell'=true:=by
  have hs:(Ev.mq Tryz.prog 9).1=false:=by kernel_rfl
  rcases Ev.qO (DA 2 9 v2 (by kernel_rfl) rfl) with ⟨cs,_,h,_⟩ | ⟨_,_,h,_⟩
  ·rw[hs] at h;cases h
  ·exact h
 have hc:Calls Tryz.prog 6 #[v0,.agg ⟨c1⟩,v2] W fun e W'=>e=.returned (.bool true)∧Below W.heap.size W W':=uh (tW hL) ⟨adr,hT0⟩ hT1 ⟨ads,hT2⟩
 refine hc.mono fun e W' ⟨he,hb⟩=>?_
 subst he
 refine⟨_,rfl,?_⟩
 have bI:∀x∈p0++p1++p2,x.block<W.heap.size:=fun x hx=>by simpa using hW'.lt x hx
 refine⟨_,_,p0++p1++p2,[],p0++p1++p2,[],hW',?_,?_,rfl,World.keptBut_mono (fun x hx=>⟨hx,Or.inr (Or.inl hx)⟩) (hb.frame (·∈p0++p1++p2)),fun h=>by cases h⟩
 ·exact trodAll_mk1 (shut_bool (by kernel_rfl) true)
 ·exact Ev.ud rZ hb tV hA bI
set_option maxRecDepth 100000 in
theorem tY:joinedFacts Tryz.checked.prog 6 Tryz.f6 Rows.changeAppliesSpec Rows.changeAppliesRow=true:=by
 unfold joinedFacts
 simp only[Bool.and_eq_true]
 exact⟨⟨⟨⟨⟨⟨⟨⟨⟨⟨⟨⟨⟨⟨⟨⟨⟨⟨⟨⟨⟨⟨⟨⟨⟨⟨⟨⟨⟨⟨⟨ui,laidOut⟩,Sv⟩,uj⟩,uk⟩,um⟩,uo⟩,uq⟩,ur⟩,uu⟩,tu⟩,tw⟩,tz⟩,tA⟩,tB⟩,tC⟩,tD⟩,tE⟩,tF⟩,tG⟩,tH⟩,tI⟩,tJ⟩,tK⟩,tL⟩,tM⟩,tN⟩,tP⟩,tQ⟩,tR⟩,tS⟩,tT⟩
theorem uz:Rows.ChangeAppliesSaid:=
 OpenClaim.holds_of_wide 6 Tryz.f6 rfl rfl rfl rfl rfl rfl rfl ⟨rfl,rfl,rfl,rfl,rfl⟩ rfl rfl rfl rfl rfl (by kernel_rfl) Tryz.func6 tY
  (of_decide_eq_true (by kernel_rfl)) (by unfold Func.isWrapper;first | (rw[if_pos (by decide+kernel)];kernel_rfl) | (rw[if_neg (by decide+kernel)];exact⟨rfl,rfl⟩))
  (fun os started H enc _=>tX os started H enc)
theorem wT:Rows.changeAppliesRow.laidByTextAt .later Tryz.pinned [.handle] true:=OpenClaim.laidByTextAt_later rfl rfl abE adl
theorem changeAppliesCard_holds:Rows.ChangeAppliesCardSaid:=
 Claim7.holds_tied_plain_at .later [] [.handle] true (true,"d6c19baefbe47bb8997dd6bb8371383e2aad68d5bd29c1f2a28d74dab8262904") true
  uz (fun _ h=>by cases h) uv (fun _ h=>by cases h) wT rfl ⟨rfl,rfl⟩ uw rfl
  (fun f fn hf Xf=>by
   obtain rfl:f=6:=Option.some.inj (uy.symm.trans hf) |>.symm
   obtain rfl:fn=Tryz.f6:=(Option.some.inj (Tryz.func6.symm.trans Xf)).symm
   exact⟨ux,fun j t ht=>by
    have hm:t∈Tryz.f6.params.toList:=Array.mem_toList_iff.2 (Array.mem_of_getElem? ht)
    rw[kt] at hm
    simp only[List.mem_cons,List.not_mem_nil,or_false] at hm
    rcases hm with rfl | rfl | rfl
    ·exact rX
    ·exact rY
    ·exact tU
    ⟩)
  (ah0 _)
end Go.Proofs.YtbajncpfmemdgaaGreatDoor
