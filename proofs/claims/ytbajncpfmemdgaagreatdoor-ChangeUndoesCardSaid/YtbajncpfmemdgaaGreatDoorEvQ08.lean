/- Proved: parts of the way: DrawF, Range, Sound, Tasks. -/
import Derived.Test.YtbajncpfmemdgaaGreatDoorEvQ07
import Derived.Test.YtbajncpfmemdgaaGreatDoorEvQ06
set_option linter.unusedVariables false
set_option linter.unusedSimpArgs false
section
namespace Go.Ev
open Go
section
variable {P:Program} {Rn:Task→St→Run} {ro:Option Nat} {p:Out×St→Prop} {W:List Nat} {base:Nat} {listed:Array Bool} {a':Go.Act} {w:World} {o:Oper}
variable {F:Fence} {bF:Ren} {σ₀:St} {eR:World}
theorem K9 [Env] (hg:Good P Rn) {ops:Array Oper} (hp:l7 ops.toList W) (hI:Inv P Rn ro F p ops.toList W base bF σ₀ eR listed a' w) {i:Nat} (ho:ops.toList[i]? =some o) (Bw:bl o.op=true) (hl:¬cu listed i)
  (hW:∀j,(W.getD i 0).testBit j=true→j<ops.toList.length∧cu listed j) {K:Go.Act→World→Prop} {Q:Exit→Go.Act→World→Prop}
  (hK:∀iM ff,Inv P Rn ro F p ops.toList W base bF σ₀ eR (listed.setIfInBounds i true) iM ff→K iM ff):wpOpIn F 0 P ops Q i K a' w:=by
 obtain⟨D,done,effs,snaps,a,σ,b,aX,ρ,hB,hA,gH,az,ba⟩:=hI
 have bz:=gO ho
 have ly:done.testBit i=false:=by
  cases hd:done.testBit i with
  | false=>rfl
  | true=>exact absurd (hA.kX i hd).2 hl
 obtain⟨D1,it,D2,rfl,rfl⟩:=l8 hA.kA i bz ly
 have cR:∀x∈D1,cu listed x.i:=by
  obtain⟨j6,ep,h1,h2,h3,_,_⟩:=wu hA.kA
  obtain⟨o',jy,_,_,h5,_⟩:=cT h1
  rw[ho] at jy;cases jy
  exact fun x hx=>(hW _ ((h5 Bw).1 _ (h3 x hx))).2
 obtain⟨dn,aS,bE,gm,pn,_⟩:=Jq hp hB hA cR
 obtain⟨o',jy,kW,lx,VL,_⟩:=cT gm.kA
 rw[ho] at jy;cases jy
 obtain⟨acN,jh⟩:=VL Bw
 obtain⟨o',jy,lA⟩:=yy gm.holds
 rw[ho] at jy;cases jy
 have lu:=xn hp hB (gm.walk (ρ:=ρ)) ho hW
 have Rs:=tI (b:=b) lu gm.sz.symm gm.df lA
 have cn:ρ (base+it.i)=none:=hB.iw _ bz hl
 have hi:ops[it.i]? =some o:=by rw[←Array.getElem?_toList];exact ho
 have zN:=gm.Bx
 have hrm:=gm.room
 have zO:R ρ bE w:=hB.rel.sub gm.sub gm.Bx
 refine pS hg zO cn hB.act gH hi Rs ?_
 rintro K8 ki pq VM La ⟨BA,⟨_,lz⟩,hf⟩ BB cA
 rw[Bw] at lz
 obtain⟨xp,Lb,iV⟩:=O1 (((List.range ops.toList.length).filter fun j=>listed.getD j true&& !dn.testBit j).map fun j=>base+j) (fun c=>aX.heap.get c) ki
 have cL:∀c,(c∈((List.range ops.toList.length).filter fun j=>listed.getD j true&& !dn.testBit j).map fun j=>base+j)↔∃j,j<ops.toList.length∧cu listed j∧dn.testBit j=false∧c=base+j:=by
  intro c
  simp only[List.mem_map,List.mem_filter,List.mem_range,Bool.and_eq_true,Bool.not_eq_true']
  constructor
  ·rintro⟨j,⟨h1,h2,h3⟩,h4⟩;exact⟨j,h1,h2,h3,h4.symm⟩
  ·rintro⟨j,h1,h2,h3,h4⟩;exact⟨j,⟨h1,h2,h3⟩,h4.symm⟩
 have Lc:∀j,j<ops.toList.length→j≠it.i→dn.testBit j=false→ki.heap.get (base+j)=none:=by
  intro j hj bQ hd
  cases hg3:ki.heap.get (base+j) with
  | none=>rfl
  | some k=>
   rcases cA.iJ _ _ hg3 with ⟨k',h⟩ | h | h
   ·rw[gm.fresh j hj hd] at h;cases h
   ·omega
   ·exact absurd (by omega) bQ
 have dy:∀j,j<ops.toList.length→cu listed j→dn.testBit j=false→xp.heap.get (base+j)=aX.heap.get (base+j):=fun j h1 h2 h3=>by
  rw[iV,if_pos ((cL _).2 ⟨j,h1,h2,h3,rfl⟩)]
 have BD:∀c k l,(∃j,j<ops.toList.length∧cu listed j∧dn.testBit j=false∧c=base+j)→aX.heap.get c=some k→ρ c=some l→¬Wr ρ bE l.c:=by
  rintro c k l ⟨j,h1,h2,h3,rfl⟩ hk cD ⟨c',k',l',h4,_,h5,h6⟩
  have:=hB.rel.inj c' _ _ _ _ _ (gm.sub _ _ h4) hk h5 cD h6
  rw[this,gm.fresh j h1 h3] at h4
  cases h4
 have NU:∀c k,ki.heap.get c=some k→xp.heap.get c=some k:=by
  intro c k hc
  rw[iV]
  by_cases hm:c∈((List.range ops.toList.length).filter fun j=>listed.getD j true&& !dn.testBit j).map fun j=>base+j
  ·obtain⟨j,h1,h2,h3,rfl⟩:=(cL c).1 hm
   rw[Lc j h1 (fun e=>hl (e▸h2)) h3] at hc;cases hc
  ·rw[if_neg hm];exact hc
 have Xh:R pq xp La:=by
  refine⟨fun c k hc=>?_,fun c c' k k' l l' h1 h2 g1 g2 e=>?_,fun c hc=>cA.r.fresh c (by rw[←Lb];exact hc),cA.r.valid,fun q o x hx=>⟨(cA.r.aL q o x hx).1,?_⟩,cA.r.laid⟩
  ·rw[iV] at hc
   by_cases hm:c∈((List.range ops.toList.length).filter fun j=>listed.getD j true&& !dn.testBit j).map fun j=>base+j
   ·rw[if_pos hm] at hc
    obtain⟨l,cD,dq⟩:=hB.rel.cS c k hc
    exact⟨l,cA.le _ _ cD,dq.same cA.le (cA.aJ _ (hB.rel.valid _ _ cD) (BD c k l ((cL c).1 hm) hc cD))⟩
   ·rw[if_neg hm] at hc;exact cA.r.cS c k hc
  ·have NV:∀ {c c':Nat} {k k':bR} {l l':Loc},(∃j,j<ops.toList.length∧cu listed j∧dn.testBit j=false∧c=base+j)→aX.heap.get c=some k→ki.heap.get c'=some k'→pq c=some l→pq c'=some l'→l.c=l'.c→False:=by
    intro c c' k k' l l' hm h1 h2 g1 g2 e
    obtain⟨cc,fC,_⟩:=hB.rel.cS c k h1
    have:l=cc:=by rw[cA.le _ _ fC] at g1;exact(Option.some.inj g1).symm
    subst this
    have hv:=hB.rel.valid _ _ fC
    exact BD c k l hm h1 fC (e▸cA.wr l'.c (e▸hv) ⟨c',k',l',h2,rfl,g2,rfl⟩)
   rw[iV] at h1 h2
   by_cases m1:c∈((List.range ops.toList.length).filter fun j=>listed.getD j true&& !dn.testBit j).map fun j=>base+j
   ·rw[if_pos m1] at h1
    by_cases m2:c'∈((List.range ops.toList.length).filter fun j=>listed.getD j true&& !dn.testBit j).map fun j=>base+j
    ·rw[if_pos m2] at h2
     obtain⟨cc,fC,_⟩:=hB.rel.cS c k h1
     obtain⟨lk,xq,_⟩:=hB.rel.cS c' k' h2
     have e1:l=cc:=by rw[cA.le _ _ fC] at g1;exact(Option.some.inj g1).symm
     have e2:l'=lk:=by rw[cA.le _ _ xq] at g2;exact(Option.some.inj g2).symm
     subst e1 e2
     exact hB.rel.inj _ _ _ _ _ _ h1 h2 fC xq e
    ·rw[if_neg m2] at h2
     exact(NV ((cL c).1 m1) h1 h2 g1 g2 e).elim
   ·rw[if_neg m1] at h1
    by_cases m2:c'∈((List.range ops.toList.length).filter fun j=>listed.getD j true&& !dn.testBit j).map fun j=>base+j
    ·rw[if_pos m2] at h2
     exact(NV ((cL c').1 m2) h2 h1 g2 g1 e.symm).elim
    ·rw[if_neg m2] at h2
     exact cA.r.inj _ _ _ _ _ _ h1 h2 g1 g2 e
  ·rintro⟨c',k,l,h1,h2,h3,h4⟩
   rw[iV] at h1
   by_cases m1:c'∈((List.range ops.toList.length).filter fun j=>listed.getD j true&& !dn.testBit j).map fun j=>base+j
   ·rw[if_pos m1] at h1
    obtain⟨cc,fC,_⟩:=hB.rel.cS c' k h1
    have e1:l=cc:=by rw[cA.le _ _ fC] at h3;exact(Option.some.inj h3).symm
    subst e1
    subst h4
    rcases cA.gq l.c o x hx with g | g | g
    ·exact(hB.rel.aL _ _ _ g).2 ⟨c',k,l,h1,rfl,fC,rfl⟩
    ·have:=hB.rel.valid _ _ fC;omega
    ·exact BD c' k l ((cL c').1 m1) h1 fC g
   ·rw[if_neg m1] at h1
    exact(cA.r.aL q o x hx).2 ⟨c',k,l,h1,h2,h3,h4⟩
 have Ld:∀c,Wr ρ bE c→Wr ρ aX c:=fun c ⟨c',k,l,h1,h2,h3,h4⟩=>⟨c',k,l,gm.sub _ _ h1,h2,h3,h4⟩
 have VN:bc (fun c=>c=base+it.i) ρ aX w pq xp La:=by
  refine⟨Xh,cA.le,by rw[Lb,←zN];exact cA.next,fun c l hc=>by rw[←zN];exact cA.iw c l hc,cA.size,cA.os,cA.tape,cA.output,fun c hc hn=>cA.aJ c hc fun h=>hn (Ld c h),?_,fun c k hc=>?_,fun c o x hx=>(cA.gq c o x hx).imp id (Or.imp id (Ld c))⟩
  ·rintro c hc ⟨c',k,l,h1,h2,h3,h4⟩
   rw[iV] at h1
   by_cases m1:c'∈((List.range ops.toList.length).filter fun j=>listed.getD j true&& !dn.testBit j).map fun j=>base+j
   ·rw[if_pos m1] at h1
    obtain⟨cc,fC,_⟩:=hB.rel.cS c' k h1
    have e1:l=cc:=by rw[cA.le _ _ fC] at h3;exact(Option.some.inj h3).symm
    subst e1
    exact⟨c',k,l,h1,rfl,fC,h4⟩
   ·rw[if_neg m1] at h1
    exact Ld c (cA.wr c hc ⟨c',k,l,h1,h2,h3,h4⟩)
  ·rw[iV] at hc
   by_cases m1:c∈((List.range ops.toList.length).filter fun j=>listed.getD j true&& !dn.testBit j).map fun j=>base+j
   ·rw[if_pos m1] at hc;exact .inl ⟨k,hc⟩
   ·rw[if_neg m1] at hc
    rcases cA.iJ c k hc with ⟨k',h⟩ | h | h
    ·exact .inl ⟨k',gm.sub _ _ h⟩
    ·exact .inr (.inl (by rw[←zN];exact h))
    ·exact .inr (.inr h)
 have vI:∀ {j},cu (listed.setIfInBounds it.i true) j↔cu listed j∨j=it.i:=cu.set (by omega)
 have tL:∀ {j},(Nat.lor dn (2^it.i)).testBit j=false→dn.testBit j=false∧it.i≠j:=by
  intro j hj
  rw[dt] at hj
  simpa using hj
 have xr:∀ {j},dn.testBit j=false→done.testBit j=false:=by
  intro j hj
  cases hd:done.testBit j with
  | false=>rfl
  | true=>rw[gm.mono.1 j hd] at hj;cases hj
 refine hK VM La ⟨D2,Nat.lor dn (2^it.i),it.i::effs,ki::snaps,BA,ki,K8,xp,pq,⟨?_,?_,Xh,BB,⟨_,rfl⟩,by simp [hB.len],NU,?_,?_,?_⟩,⟨jh,lz,⟨fun _ h=>h,(oB gm.mono lx).2⟩,?_,by rw[hf.sa,hf.sb];exact gm.sz,hf.d,Lb.symm,Nat.le_trans gm.room cA.next,NU,?_,?_⟩,gH.mono cA.le,
  az.trans (VN.weaken fun c hc=>by rw[hc];exact Nat.le_add_right _ _),by simpa using ba⟩
 ·intro j hj cY k hk
  rcases vI.1 cY with cY | rfl
  ·exact⟨(hB.closed j hj cY k hk).1,vI.2 (.inl (hB.closed j hj cY k hk).2)⟩
  ·exact⟨(hW k hk).1,vI.2 (.inl (hW k hk).2)⟩
 ·intro j oj hj cY gP
  obtain⟨h1,h2⟩:=tL gP
  exact hB.ne j oj hj ((vI.1 cY).resolve_right fun e=>h2 e.symm) (xr h1)
 ·intro j hj gP
  obtain⟨h1,h2⟩:=tL gP
  exact Lc j hj (fun e=>h2 e.symm) h1
 ·intro j hj cY
  cases hr:pq (base+j) with
  | none=>rfl
  | some l=>
   rcases cA.iw _ _ hr with h | h | h
   ·rw[hB.iw j hj fun h=>cY (vI.2 (.inl h))] at h;cases h
   ·omega
   ·exact absurd (vI.2 (.inr (by omega))) cY
 ·intro j oj hj cY gP
  obtain⟨h1,h2⟩:=tL gP
  have cY:=(vI.1 cY).resolve_right fun e=>h2 e.symm
  have DY:=gO hj
  have BC:=hB.ne j oj hj cY (xr h1)
  have NW:(W.getD j 0).testBit it.i=false:=by
   cases hw:(W.getD j 0).testBit it.i with
   | false=>rfl
   | true=>exact absurd (hB.closed j DY cY _ hw).2 hl
  obtain⟨u,hu,Bv⟩:=hB.K5 j oj hj cY (xr h1)
  have po:∀t∈looks ops.toList oj,K8.tmps.get t=b.tmps.get t:=by
   intro t ht
   refine hf.GK t fun hd=>?_
   rcases(hp.data _ _ _ _ _ hj ho hd ht).2 with h | ⟨_,h⟩
   ·rw[NW] at h;cases h
   ·rw[lx j h] at h1;cases h1
  refine⟨u,fun t ht=>?_,?_⟩
  ·rw[hf.GK t fun hd=>h2 (hp.Rm _ _ _ _ _ ho hj hd ht)]
   exact hu t ht
  ·rw[dy j DY cY h1]
   rcases Bv with h | h | ⟨r1,r2,q,τ,r3,r4,r5,r6⟩
   ·
    obtain⟨E1,itj,E2,hE,jA⟩:=l8 jh j DY gP
    rw[hE] at jh
    obtain⟨acP,ep,q1,_,_,_,q5⟩:=wu jh
    obtain⟨oj',Rt,_,_,_,q6⟩:=cT q1
    rw[jA,hj] at Rt;cases Rt
    obtain⟨q7,q8,_⟩:=q6 BC
    have zJ:itj.back≠0:=by
     intro e0
     unfold te at q7
     rw[e0,List.drop_zero,jA] at q7
     cases ep with
     | nil=>
      have NX:(W.getD j 0).testBit it.i=true:=q7
      rw[NW] at NX;cases NX
     | cons f ep=>
      have NX:(W.getD j 0).testBit f=true:=q7
      obtain⟨r1,of,r2,r3⟩:=q5 f List.mem_cons_self
      obtain⟨r4,r5⟩:=tL r1
      have:=hB.ne f of r2 (hB.closed j DY cY f NX).2 (xr r4)
      rw[r3] at this;cases this
    have DS:(aX.kill (base+j)).heap.get (base+j)=none:=by rw[gU,if_pos rfl]
    by_cases hr:rj P oj.op=true
    ·have e1:=Bs hr h
     have gN:aX.heap.get (base+j)=none:=uY DS e1
     obtain⟨r,gr⟩:=hB.head
     refine .inr (.inr ⟨hr,gN,1,σ,by rw[gr];rfl,Nat.le_refl _,fun f DZ=>?_,fun u' hZ hh=>?_⟩)
     ·have:f=it.i:=by simpa using DZ
      rw[this];exact NW
     ·rw[jz po] at hh
      have e2:=Bs hr hh
      rw[e2] at hh
      have vG:=hB.fresh j DY (xr h1)
      have:=yD (κ:=none) BC hB.act vG hh (Bu hB.sub vG)
      rw[h] at this
      exact((Prod.mk.inj (bu.ok.inj this)).1).symm
    ·have YR:dV P oj.op=false:=by
      rcases q8 with h | h | h
      ·exact absurd h zJ
      ·exact absurd h hr
      ·exact h
     obtain⟨v',vE,he,cR⟩:=Bo (P:=P) (id:=base+j) (ops:=ops.toList) (a:=b) BC YR (wq hr) (aX.kill (base+j)) (fun r=>r=(u,(aX.kill (base+j)).ext (base+j) (aX.heap.get (base+j)))) (by rw[h];exact rfl)
     have e1:v'=u:=(Prod.mk.inj he).1
     have e2:vE=aX.heap.get (base+j):=uY DS (Prod.mk.inj he).2
     subst e1
     exact .inr (.inl fun σ'=>by rw[jz po,cR,e2])
   ·exact .inr (.inl fun σ'=>by rw[jz po];exact h σ')
   ·refine .inr (.inr ⟨r1,r2,q+1,τ,r3,by omega,fun f DZ=>?_,fun u' hZ hh=>r6 u' hZ (by rw[←jz po];exact hh)⟩)
    rw[List.take_succ_cons] at DZ
    rcases List.mem_cons.1 DZ with rfl | DZ
    ·exact NW
    ·exact r5 f DZ
 ·intro j hj
  rw[dt] at hj
  simp only[Bool.or_eq_true,decide_eq_true_eq] at hj
  rcases hj with hj | rfl
  ·exact⟨(gm.kX j hj).1,vI.2 (.inl (gm.kX j hj).2)⟩
  ·exact⟨bz,vI.2 (.inr rfl)⟩
 ·intro j hj gP
  obtain⟨h1,h2⟩:=tL gP
  exact Lc j hj (fun e=>h2 e.symm) h1
 ·intro t ht
  by_cases hd:o.dst=some t
  ·exact hf.at_ t hd
  ·rw[hf.NP t hd,hf.GK t hd]
   refine gm.agree t fun j oj hj cY gP=>?_
   by_cases e:it.i=j
   ·subst e;exact absurd cY hl
   ·exact ht j oj hj (vI.2 (.inl cY)) (by rw[dt,gP];simp [e])
theorem zP [Env] {L:List Oper} (hp:l7 L W) (hb:base=σ₀.next) (hI:Inv P Rn ro F p L W base bF σ₀ eR listed a' w) (cR:∀i,i<L.length→cu listed i):bJ p bF σ₀ eR .normal a' w:=by
 obtain⟨D,done,effs,snaps,a,σ,b,aX,ρ,hB,hA,gH,az,ba⟩:=hI
 have hlD:∀x∈D,cu listed x.i:=by
  intro x hx
  obtain⟨D1,D2,rfl⟩:=List.append_of_mem hx
  obtain⟨_,_,h1,_⟩:=wu hA.kA
  obtain⟨o,ho,_⟩:=cT h1
  exact cR _ (gO ho)
 have hA':zM P Rn ro p L W base listed done effs snaps b aX (D++[]) done a σ:=by rw[List.append_nil];exact hA
 obtain⟨dn,aS,bE,gm,_,_⟩:=Jq hp hB hA' hlD
 have yE:p (.exit .normal aS,bE):=gm.holds
 have kW:∀j,j<L.length→dn.testBit j=true:=by
  have h':(List.range L.length).all dn.testBit=true:=gm.kA
  exact fun j hj=>List.all_eq_true.1 h' j (List.mem_range.2 hj)
 have fu:∀t,aS.tmps.get t=b.tmps.get t:=fun t=>gm.agree t fun j oj hj _ hd=>by rw[kW j (gO hj)] at hd;cases hd
 have lq:=az.sub gm.sub gm.Bx
 refine⟨.normal,aS,bE,ρ,yE,rfl,⟨fun t v hv=>hB.act.tmps t v (by rw[←fu];exact hv),by rw[gm.sz];exact hB.act.size,by rw[gm.df];exact hB.act.defers⟩,?_⟩
 refine⟨lq.r,lq.le,lq.next,fun c l hc=>?_,lq.size,lq.os,lq.tape,lq.output,lq.aJ,lq.wr,fun c k hc=>?_,lq.gq⟩
 ·rcases lq.iw c l hc with h | h | h
  ·exact .inl h
  ·exact .inr (.inl h)
  ·exact .inr (.inl (by rw[←hb];exact h))
 ·rcases lq.iJ c k hc with h | h | h
  ·exact .inl h
  ·exact .inr (.inl h)
  ·exact .inr (.inl (by rw[←hb];exact h))
theorem GO [Env] {L:List Oper}:∀ {D:List Item} {dn:Nat} {ef:List Nat},dp P L W dn ef D=true→(∀j,dn.testBit j=true→j<L.length∧cu listed j)→
  (∀i,i<L.length→cu listed i)∨∃i o,L[i]? =some o∧¬cu listed i∧∀j,(W.getD i 0).testBit j=true→j<L.length∧cu listed j:=by
 intro D
 induction D with
 | nil=>
  intro dn ef h kW
  have h':(List.range L.length).all dn.testBit=true:=h
  exact .inl fun i hi=>(kW i (List.all_eq_true.1 h' i (List.mem_range.2 hi))).2
 | cons it D ih=>
  intro dn ef h kW
  obtain⟨o,ho,_,lx,h1,h2⟩:=cT h
  by_cases hl:cu listed it.i
  ·have Ru:∀j,(Nat.lor dn (2^it.i)).testBit j=true→j<L.length∧cu listed j:=by
    intro j hj
    rw[dt] at hj
    simp only[Bool.or_eq_true,decide_eq_true_eq] at hj
    rcases hj with hj | rfl
    ·exact kW j hj
    ·exact⟨gO ho,hl⟩
   cases he:bl o.op with
   | true=>exact ih (h1 he).2 Ru
   | false=>exact ih (h2 he).2.2 Ru
  ·exact .inr ⟨it.i,o,ho,hl,fun j hj=>kW j (lx j hj)⟩
def BE (n:Nat) (listed:Array Bool):Nat:=(List.range n).countP fun i=> !listed.getD i true
theorem O3 [Env] {n i:Nat} (hi:i<n) (hs:listed.size=n) (hl:¬cu listed i):BE n (listed.setIfInBounds i true)<BE n listed:=by
 unfold BE
 have hle:∀(l:List Nat),l.countP (fun j=> !(listed.setIfInBounds i true).getD j true)+(if i∈l then 1 else 0)≤l.countP fun j=> !listed.getD j true:=by
  intro l
  induction l with
  | nil=>simp
  | cons x l ih=>
   rw[List.countP_cons,List.countP_cons]
   have hx:cu (listed.setIfInBounds i true) x↔cu listed x∨x=i:=cu.set (by omega)
   by_cases e:x=i
   ·subst e
    have h1:(listed.setIfInBounds x true).getD x true=true:=hx.2 (.inr rfl)
    have h2:listed.getD x true=false:=by
     cases hq:listed.getD x true with
     | false=>rfl
     | true=>exact absurd hq hl
    rw[h1,h2]
    simp only[List.mem_cons,true_or,if_true,Bool.not_true,Bool.false_eq_true,if_false,Bool.not_false]
    have:(if x∈l then 1 else 0)≤1:=by split<;>omega
    omega
   ·have h1:(listed.setIfInBounds i true).getD x true=listed.getD x true:=by
     cases hq:listed.getD x true with
     | true=>exact hx.2 (.inl hq)
     | false=>
      cases jv:(listed.setIfInBounds i true).getD x true with
      | false=>rfl
      | true=>
       rcases hx.1 jv with h | h
       ·have h':listed.getD x true=true:=h
        rw[hq] at h';cases h'
       ·exact absurd h e
    have bQ:¬i=x:=fun h=>e h.symm
    rw[h1]
    simp only[List.mem_cons,bQ,false_or]
    omega
 have:=hle (List.range n)
 rw[if_pos (List.mem_range.2 hi)] at this
 omega
theorem Jr [Env] (hg:Good P Rn) {ops:Array Oper} (hp:l7 ops.toList W) (hb:base=σ₀.next):∀(fuel:Nat) {listed:Array Bool} {a':Go.Act} {w:World},Inv P Rn ro F p ops.toList W base bF σ₀ eR listed a' w→BE ops.toList.length listed≤fuel→
  wpAnyIn F 0 P .any ops (bJ p bF σ₀ eR) fuel listed a' w:=by
 have GP:∀ {listed:Array Bool} {i:Nat},i∈Region.ready .any ops listed↔listed.getD i true=false∧∃o,ops[i]? =some o∧∀e∈o.after,Region.binds .any e=true→listed.getD e.on false=true:=mem_ready
 have NY:∀ {listed:Array Bool} {j:Nat},listed.size=ops.toList.length→(listed.getD j false=true↔j<ops.toList.length∧cu listed j):=by
  intro listed j hs
  unfold cu
  rw[Array.getD_eq_getD_getElem?,Array.getD_eq_getD_getElem?]
  by_cases hj:j<listed.size
  ·have h1:j<ops.toList.length:=by rw[←hs];exact hj
   rw[Array.getElem?_eq_getElem hj]
   exact⟨fun h=>⟨h1,h⟩,fun h=>h.2⟩
  ·rw[Array.getElem?_eq_none (by omega)]
   exact⟨fun h=>(by cases h),fun h=>absurd h.1 (by rw[←hs];exact hj)⟩
 have Rv:∀ {listed:Array Bool} {a':Go.Act} {w:World},Inv P Rn ro F p ops.toList W base bF σ₀ eR listed a' w→Region.ready .any ops listed=[]→∀i,i<ops.toList.length→cu listed i:=by
  intro listed a' w hI rA
  obtain⟨D,done,effs,snaps,a,σ,b,aX,ρ,hB,hA,gH,az,ba⟩:=hI
  rcases GO hA.kA hA.kX with h | ⟨i,o,ho,hl,hW⟩
  ·exact h
  ·have:i∈Region.ready .any ops listed:=by
    refine GP.2 ⟨?_,o,by rw[←Array.getElem?_toList];exact ho,fun e he BF=>?_⟩
    ·cases hq:listed.getD i true with
     | false=>rfl
     | true=>exact absurd hq hl
    ·refine(NY ba).2 (hW _ ?_)
     rw[hp.wait i o ho]
     exact xm.2 ⟨e,he,BF,.inl rfl⟩
   rw[rA] at this;cases this
 intro fuel
 induction fuel with
 | zero=>
  intro listed a' w hI hf
  have cR:∀i,i<ops.toList.length→cu listed i:=by
   intro i hi
   cases hq:listed.getD i true with
   | true=>exact hq
   | false=>
    have:0<BE ops.toList.length listed:=by
     unfold BE
     exact List.countP_pos_iff.2 ⟨i,List.mem_range.2 hi,by rw[hq];rfl⟩
    omega
  refine⟨?_,zP hp hb hI cR⟩
  rw[List.eq_nil_iff_forall_not_mem]
  intro i hi
  obtain⟨h1,o,ho,_⟩:=GP.1 hi
  have:cu listed i:=cR i (gO (by rw[Array.getElem?_toList];exact ho))
  unfold cu at this
  rw[h1] at this;cases this
 | succ fuel ih=>
  intro listed a' w hI hf
  refine⟨fun rA=>zP hp hb hI (Rv hI rA),fun i hi=>?_⟩
  obtain⟨h1,o,ho,hed⟩:=GP.1 hi
  have NZ:ops.toList[i]? =some o:=by rw[Array.getElem?_toList];exact ho
  have hl:¬cu listed i:=by unfold cu;rw[h1];simp
  obtain⟨D,done,effs,snaps,a,σ,b,aX,ρ,hB,hA,gH,az,ba⟩:=id hI
  have hW:∀j,(W.getD i 0).testBit j=true→j<ops.toList.length∧cu listed j:=by
   intro j hj
   rw[hp.wait i o NZ] at hj
   obtain⟨e,he,BF,Rw⟩:=xm.1 hj
   have:=(NY ba).1 (hed e he BF)
   rcases Rw with rfl | Rw
   ·exact this
   ·exact hB.closed _ this.1 this.2 j Rw
  have hK:∀iM ff,Inv P Rn ro F p ops.toList W base bF σ₀ eR (listed.setIfInBounds i true) iM ff→wpAnyIn F 0 P .any ops (bJ p bF σ₀ eR) fuel (listed.setIfInBounds i true) iM ff:=by
   intro iM ff hI'
   have:=O3 (gO NZ) ba hl
   exact ih hI' (by omega)
  cases he:bl o.op with
  | true=>exact K9 hg hp hI NZ he hl hW hK
  | false=>exact O2 hg hp hI NZ he hl hW hK
theorem Du [Env] (hg:Good P Rn) (jc:P.follows .mixedOrders=true) {ρ:Ren} {σ:St} (hr:R ρ σ w) {a:Act} {a':Go.Act} (ha:bw ρ a a') (bt:fH ρ ro F) {id:Nat} {ops:Array Oper} {p:Out×St→Prop}
  (h:((uR P ops.toList true).f Rn ro a σ).Holds p):(Code.region id ops true).wpIn F 0 P (bJ p ρ σ w) a' w:=by
 refine wpIn_region_any jc ?_
 unfold uR at h
 dsimp only at h
 split at h
 ·rename_i l hl
  obtain⟨W,hp,jh⟩:=Ds hl
  have hn:(ahead (len ops.toList) σ).next=σ.next+ops.toList.length:=by obtain⟨hh,m⟩:=σ;rw[aZ];rfl
  have hh:∀c,(ahead (len ops.toList) σ).heap.get c=σ.heap.get c:=by intro c;obtain⟨hh,m⟩:=σ;rfl
  have Le:∀i,i<ops.toList.length→¬cu (Array.replicate ops.size false) i:=by
   intro i hi hl
   unfold cu at hl
   rw[Array.getD_eq_getD_getElem?] at hl
   simp at hi
   simp [hi] at hl
  have mT:∀i,i<ops.toList.length→ρ (σ.next+i)=none:=fun i _=>hr.fresh _ (Nat.le_add_right _ _)
  have gr:R ρ (ahead (len ops.toList) σ) {w with drawn:=w.drawn+1}:=
   ⟨fun c k hc=>by rw[hh] at hc;exact(hr.congr (w':={w with drawn:=w.drawn+1}) rfl).cS c k hc,fun c c' k k' l l' h1 h2=>by rw[hh] at h1 h2;exact hr.inj c c' k k' l l' h1 h2,fun c hc=>hr.fresh c (by rw[hn] at hc;omega),hr.valid,
    fun c o x hx=>⟨(hr.aL c o x hx).1,fun⟨c',k,l,h1,h2,h3,h4⟩=>(hr.aL c o x hx).2 ⟨c',k,l,by rw[←hh];exact h1,h2,h3,h4⟩⟩,hr.laid⟩
  refine Jr (base:=σ.next) hg hp rfl ops.size ⟨l,0,[],[_],a,_,a,_,ρ,⟨?_,?_,gr,ha,⟨[],rfl⟩,rfl,fun _ _ h=>h,?_,?_,?_⟩,⟨jh,h,⟨fun _ h=>h,fun j k hj _=>by simp at hj⟩,fun i hi=>by simp at hi,rfl,rfl,rfl,by rw[hn];exact Nat.le_refl _,fun _ _ h=>h,?_,fun _ _=>rfl⟩,bt,?_,by simp⟩ ?_
  ·intro i hi hl;exact absurd hl (Le i hi)
  ·intro i o ho hl;exact absurd hl (Le i (gO ho))
  ·intro i hi _;rw[hh];exact hr.nk (mT i hi)
  ·intro i hi _;exact mT i hi
  ·intro i o ho hl;exact absurd hl (Le i (gO ho))
  ·intro i hi _;rw[hh];exact hr.nk (mT i hi)
  ·exact⟨gr,Ren.le.refl ρ,by rw[hn];omega,fun _ _ h=>.inl h,Nat.le_refl _,rfl,rfl,rfl,fun _ _ _=>rfl,fun c _ ⟨c',k,l,h1,h2,h3,h4⟩=>⟨c',k,l,by rw[←hh];exact h1,h2,h3,h4⟩,fun c k hc=>.inl ⟨k,by rw[←hh];exact hc⟩,fun _ _ _ h=>.inl h⟩
  ·have:=List.countP_le_length (p:=fun i=> !(Array.replicate ops.size false).getD i true) (l:=List.range ops.toList.length)
   simpa [BE] using this
 ·exact h.elim
end
end Go.Ev
end
section
namespace Go.Ev
open Go
section
variable {P:Program} {ρ:Ren} {σ:St} {w:World} {Rn:Task→St→Run} {F:Fence} {ro:Option Nat}
theorem bc.drop [Env] {ids:Nat→Prop} (h:R ρ σ w) {b:Nat} {k:bR} {l:Loc} (hk:σ.heap.get b=some k) (hl:ρ b=some l) (A5:k.rq=true)
  {w':World} (ba:w'.heap.size=w.heap.size) (oo:∀c,c≠l.c→w'.heap[c]? =w.heap[c]?) (ho:w'.os=w.os) (ht:w'.tape=w.tape) (hp:w'.output=w.output):
  bc ids ρ σ w ρ (σ.kill b) w':=by
 have key:∀b' k,(σ.kill b).heap.get b'=some k→b'≠b∧σ.heap.get b'=some k:=by
  intro b' k bq
  rw[kN,Trie.bN] at bq
  by_cases e:b'=b
  ·rw[if_pos e] at bq;cases bq
  ·rw[if_neg e] at bq;exact⟨e,bq⟩
 have lh:∀c,c<w.heap.size→¬Wr ρ σ c→w'.heap[c]? =w.heap[c]? :=fun c hc hn=>oo c fun e=>hn ⟨b,k,l,hk,A5,hl,e.symm⟩
 have kO:∀c,c<w.heap.size→Wr ρ (σ.kill b) c→Wr ρ σ c:=by
  rintro c hc ⟨b',k₁,l',h1,h2,h3,h4⟩
  exact⟨b',k₁,l',(key _ _ h1).2,h2,h3,h4⟩
 refine⟨⟨fun b' k₁ bq=>?_,fun cP cQ k₁ k₂ cc lk h1 h2=>h.inj cP cQ k₁ k₂ cc lk (key _ _ h1).2 (key _ _ h2).2,fun b' bq=>h.fresh b' (by simpa using bq),fun b' l' bq=>by rw[ba];exact h.valid b' l' bq,h.qx rfl lh kO,h.laid⟩,
  Ren.le.refl ρ,by simp,fun _ _ h=>.inl h,by omega,ho,ht,hp,lh,kO,fun b' k h=>.inl ⟨k,(key b' k h).2⟩,fun _ _ _ h=>.inl h⟩
 ·obtain⟨bQ,Rx⟩:=key _ _ bq
  obtain⟨l',cD,eA⟩:=h.cS b' k₁ Rx
  exact⟨l',cD,eA.same (Ren.le.refl ρ) (oo _ fun ec=>bQ (h.inj b' b _ _ _ _ Rx hk cD hl ec))⟩
theorem R.loop [Env] (hr:R ρ σ w) {l:Nat} {st:LoopState} {A4:Option Code} {fn:FuncId} {t:bD V} {size d:Nat} {ps:List Tmp} {adj bo:Code} (hb:σ.heap.get l=some (.loop st A4 fn t size ps adj bo d)) {k:Loc} (hl:ρ l=some k):
  ∃IW t' ld,w.heap[k.c]? =some (.loop {state:=st,pending:=A4,fn:=IW,tmps:=t',params:=⟨ps⟩,assign:=adj,body:=bo,defers:=ld.c})∧iI ρ t t'∧size=t'.size∧ρ d=some ld:=by
 obtain⟨k',eA,hblk⟩:=hr.cS _ _ hb
 rw[hl] at eA;cases eA
 cases hblk with
 | loop h ht hs hd=>exact⟨_,_,_,h,ht,hs,hd⟩
end
end Go.Ev
end
section
namespace Go.Ev
open Go
section
variable {P:Program} {ρ:Ren} {σ:St} {w:World} {Rn:Task→St→Run} {F:Fence} {ro:Option Nat}
theorem tM [Env] {q p:Out×St→Prop} {K:Go.Act→World→Prop} {e:Exit} {a':Go.Act} {w':World} (h:bJ q ρ σ w e a' w')
  (hn:∀a σ' ρ',q (.exit .normal a,σ')→bw ρ' a a'→bc ph ρ σ w ρ' σ' w'→K a' w')
  (he:∀x a σ',x≠.normal→q (.exit x a,σ')→p (.exit x a,σ')):Exit.then K (bJ p ρ σ w) e a' w':=by
 obtain⟨x,a,σ',ρ',h1,rfl,h3,h4⟩:=h
 cases x with
 | normal=>exact hn _ _ _ h1 h3 h4
 | exit i=>exact⟨_,_,_,_,he _ _ _ (by simp) h1,rfl,h3,h4⟩
 | goto i=>exact⟨_,_,_,_,he _ _ _ (by simp) h1,rfl,h3,h4⟩
 | ret=>exact⟨_,_,_,_,he _ _ _ (by simp) h1,rfl,h3,h4⟩
theorem oC {x:Code} {Q:Exit→Go.Act→World→Prop} {a:Go.Act} {w:World}
  (h:x.wpIn F 0 P (Exit.then (fun a' w'=>ju F P x Q a' w') Q) a w):(Code.loop x).wpIn F 0 P Q a w∧ju F P x Q a w:=by
 have key:∀(b:Frame) (k:List Go.Item) (cs:List Frame),b.roundOf=F.round→F.fn b.fn→F.room (cs.length+1+0)→
   ∃e a' w',Q e a' w'∧ArrivesIn (Machine.fenced P F) P (lone (b.atR a (.code x::.inLoop x::k)) cs w) b k cs e a' w':=by
  intro b k cs gH hb hr
  obtain⟨e,aY,bd,hq,gA⟩:=h b (.inLoop x::k) cs gH hb hr
  cases e with
  | normal=>
   obtain⟨Lf,aS,ff,GQ,yF⟩:=hq b k cs gH hb hr
   exact⟨Lf,aS,ff,GQ,.of_steps gA yF⟩
  | exit id=>exact⟨_,aY,bd,hq,.pass (x:=.inLoop x) rfl (fun _ _=>.inl (by simp)) gA⟩
  | goto l=>exact⟨_,aY,bd,hq,.pass (x:=.inLoop x) rfl (fun _ _=>.inl (by simp)) gA⟩
  | ret=>exact⟨_,aY,bd,hq,.pass (x:=.inLoop x) rfl (fun _ _=>.inl (by simp)) gA⟩
  | panic ch=>exact⟨_,aY,bd,hq,.pass (x:=.inLoop x) rfl (fun _ _=>.inl (by simp)) gA⟩
  | outgrown=>exact⟨_,aY,bd,hq,.pass (x:=.inLoop x) rfl (fun _ _=>.inl (by simp)) gA⟩
 constructor
 ·intro b k cs gH hb hr
  obtain⟨e,a',w',hq,gA⟩:=key b k cs gH hb hr
  exact⟨e,a',w',hq,.of_steps (.one (fenced_calm hb hr rfl) stepR_loop) gA⟩
 ·intro b k cs gH hb hr
  obtain⟨e,a',w',hq,gA⟩:=key b k cs gH hb hr
  exact⟨e,a',w',hq,.of_steps (.one (fenced_calm hb hr rfl) stepR_inLoop) gA⟩
theorem Dv {b:Frame} {a:Go.Act} {k:List Go.Item} {cs:List Frame} {c:Code}:Go.step P (lone (b.atR a (.code (.scope c)::k)) cs w)=.next (lone (b.atR a (.code c::.inScope c::k)) cs w):=
 step_lone_go (by simp [stepG,stepG.exec,Frame.atR])
theorem Ax {b:Frame} {a:Go.Act} {k:List Go.Item} {cs:List Frame} {c:Code}:Go.step P (lone (b.atR a (.inScope c::k)) cs w)=.next (lone (b.atR a k) cs w):=
 step_lone_go (by simp [stepG,stepG.exec,Frame.atR])
theorem sA [Env] {x:Code} {Q:Exit→Go.Act→World→Prop} {a:Go.Act} {w:World} (h:kV F P x x Q a w):(Code.scope x).wpIn F 0 P Q a w:=by
 intro b k cs gH hb hr
 obtain⟨e,a',w',hq,gA⟩:=h b k cs gH hb hr
 exact⟨e,a',w',hq,.of_steps (.one (fenced_calm hb hr rfl) Dv) gA⟩
theorem xu [Env] {x cur:Code} {Q:Exit→Go.Act→World→Prop} {a:Go.Act} {w:World}
  (h:cur.wpIn F 0 P (fun e a' w'=>match e with
   | .goto l=>(∀rest,findLabel x l=some rest→kV F P x rest Q a' w')∧(findLabel x l=none→Q (.goto l) a' w')
   | e=>Q e a' w') a w):kV F P x cur Q a w:=by
 intro b k cs gH hb hr
 obtain⟨e,aY,bd,hq,gA⟩:=h b (.inScope x::k) cs gH hb hr
 cases e with
 | normal=>exact⟨.normal,aY,bd,hq,StepsIn.trans gA (.one (fenced_calm hb hr rfl) Ax)⟩
 | exit id=>
  have hx:exitTo id (.inScope x::k)=exitTo id k:=by simp [exitTo]
  exact⟨.exit id,aY,bd,hq,fun k' hk=>gA.1 k' (by rw[hx];exact hk),fun gr hk=>gA.2 gr (by rw[hx];exact hk)⟩
 | goto l=>
  cases hf:findLabel x l with
  | some rest=>
   have hs:=gA.1 (.code rest::.inScope x::k) (by simp [gotoIn,hf])
   obtain⟨Lf,aS,ff,GQ,yF⟩:=hq.1 rest hf b k cs gH hb hr
   exact⟨Lf,aS,ff,GQ,.of_steps hs yF⟩
  | none=>
   have hx:gotoIn l (.inScope x::k)=gotoIn l k:=by simp [gotoIn,hf]
   exact⟨.goto l,aY,bd,hq.2 hf,fun k' hk=>gA.1 k' (by rw[hx];exact hk),fun gr hk=>gA.2 gr (by rw[hx];exact hk)⟩
 | ret=>exact⟨_,aY,bd,hq,gA⟩
 | panic ch=>exact⟨_,aY,bd,hq,gA⟩
 | outgrown=>exact⟨_,aY,bd,hq,gA⟩
theorem LeavesInM.mono {n:Nat} {fn:Func} {tmps:Array Value} {Q Q':Ending→World→Prop}:∀ {ds:List Deferred} {u:FrameMode} {w:World},LeavesInM F n P fn tmps Q ds u w→(∀e w,Q e w→Q' e w)→LeavesInM F n P fn tmps Q' ds u w:=by
 intro ds
 induction ds with
 | nil=>
  intro u w h hq
  cases u with
  | run=>exact h.elim
  | returning=>obtain⟨v,h1,h2⟩:=h;exact⟨v,h1,hq _ _ h2⟩
  | panicking c=>exact hq _ _ h
 | cons d ds ih=>
  intro u w h hq
  obtain⟨h1,h2⟩:=h
  refine⟨h1,h2.imp ?_ ?_⟩
  ·rintro⟨r,w',a,b,c⟩;exact⟨r,w',a,b,ih c hq⟩
  ·rintro⟨a,fv,cap,f,args,b,c,d,e⟩
   refine⟨a,fv,cap,f,args,b,c,d,e.mono fun e u' w' h=>?_⟩
   cases e with
   | returned v=>exact ih h hq
   | panicked c=>exact ih h hq
   | outgrown=>exact hq _ _ h
theorem pU [Env] (hg:Good P Rn) (jc:P.follows .mixedOrders=true) {fn:FuncId}:∀(c:Code) {a:Act} {σ:St} {p:Out×St→Prop},((iH P fn c).f Rn ro a σ).Holds p→
  ∀ {ρ:Ren} {w:World} {a':Go.Act},R ρ σ w→bw ρ a a'→fH ρ ro F→c.wpIn F 0 P (bJ p ρ σ w) a' w∧∀x,c=.loop x→ju F P x (bJ p ρ σ w) a' w:=by
 intro c
 induction c with
 | skip=>
  intro a σ p h ρ w a' hr ha bt
  exact⟨wpIn_skip ⟨.normal,_,_,_,h,rfl,ha,bc.refl hr⟩,fun _ e=>by cases e⟩
 | label l=>
  intro a σ p h ρ w a' hr ha bt
  exact⟨wpIn_label ⟨.normal,_,_,_,h,rfl,ha,bc.refl hr⟩,fun _ e=>by cases e⟩
 | exit i=>
  intro a σ p h ρ w a' hr ha bt
  exact⟨wpIn_exit ⟨.exit i,_,_,_,h,rfl,ha,bc.refl hr⟩,fun _ e=>by cases e⟩
 | goto l=>
  intro a σ p h ρ w a' hr ha bt
  exact⟨wpIn_goto ⟨.goto l,_,_,_,h,rfl,ha,bc.refl hr⟩,fun _ e=>by cases e⟩
 | ret=>
  intro a σ p h ρ w a' hr ha bt
  exact⟨wpIn_ret ⟨.ret,_,_,_,h,rfl,ha,bc.refl hr⟩,fun _ e=>by cases e⟩
 | seq x y ihx Ry=>
  intro a σ p h ρ w a' hr ha bt
  refine⟨wpIn_seq (wpIn_mono (ihx (bu.Holds.bind h) hr ha bt).1 fun e aY bd eX=>?_),fun _ e=>by cases e⟩
  refine tM eX (fun a σ' ρ' hq Rz az=>?_) (fun x a σ' hx hq=>?_)
  ·exact wpIn_mono (Ry hq az.r Rz (bt.mono az.le)).1 fun _ _ _ hp=>bJ.trans az hp
  ·cases x<;>first | exact absurd rfl hx | exact hq
 | cond x y z Ry ihz=>
  intro a σ p h ρ w a' hr ha bt
  refine⟨?_,fun _ e=>by cases e⟩
  have h':(AB ((iH P fn y).f Rn ro) ((iH P fn z).f Rn ro) a σ (a.eval x)).Holds p:=h
  unfold AB at h'
  split at h'
  ·rename_i hx;exact wpIn_cond_true ((ha.eval x hx).qC) (Ry h' hr ha bt).1
  ·rename_i hx;exact wpIn_cond_false ((ha.eval x hx).qC) (ihz h' hr ha bt).1
  ·exact h'.elim
 | block id x ih=>
  intro a σ p h ρ w a' hr ha bt
  refine⟨wpIn_block (wpIn_mono (ih (bu.Holds.bind h) hr ha bt).1 fun e aY bd eX=>?_),fun _ e=>by cases e⟩
  obtain⟨e,b,σ',ρ',h1,rfl,h3,h4⟩:=eX
  cases e with
  | normal=>exact⟨.normal,_,_,_,h1,rfl,h3,h4⟩
  | exit i=>
   have fG:p (.exit (if i=id then .normal else .exit i) b,σ'):=h1
   by_cases hi:i=id
   ·simp only[qD,Exit.inBlock,hi,if_true]
    rw[if_pos hi] at fG
    exact⟨.normal,_,_,_,fG,rfl,h3,h4⟩
   ·simp only[qD,Exit.inBlock,hi,if_false]
    rw[if_neg hi] at fG
    exact⟨.exit i,_,_,_,fG,rfl,h3,h4⟩
  | goto l=>exact⟨.goto l,_,_,_,h1,rfl,h3,h4⟩
  | ret=>exact⟨.ret,_,_,_,h1,rfl,h3,h4⟩
 | loop x ih=>
  intro a σ p h ρ w a' hr ha bt
  refine⟨hg.code h hr ha bt,fun y e=>?_⟩
  cases e
  exact hg.loop h hr ha bt
 | region id ops draw=>
  intro a σ p h ρ w a' hr ha bt
  refine⟨?_,fun _ e=>by cases e⟩
  cases draw with
  | false=>exact Bk hg hr ha bt h
  | true=>exact Du hg jc hr ha bt h
 | rangeFunc f ps adj bo _ _=>
  intro a σ p h ρ w a' hr ha bt
  exact h.elim
 | scope x ih=>
  intro a σ p h ρ w a' hr ha bt
  exact⟨sA (hg.inScope h hr ha bt),fun _ e=>by cases e⟩
 | refuse u=>
  intro a σ p h ρ w a' hr ha bt
  exact h.elim
theorem Dw [Env] (hg:Good P Rn) (jc:P.follows .mixedOrders=true) {fn:FuncId} {x:Code} {a:Act} {σ:St} {p:Out×St→Prop} (h:(((iH P fn x).f Rn ro a σ).bind (KR fun a σ=>Rn (.code ro fn (.loop x) a) σ)).Holds p)
  {ρ:Ren} {w:World} {a':Go.Act} (hr:R ρ σ w) (ha:bw ρ a a') (bt:fH ρ ro F):(Code.loop x).wpIn F 0 P (bJ p ρ σ w) a' w∧ju F P x (bJ p ρ σ w) a' w:=by
 refine oC (wpIn_mono (pU hg jc x (bu.Holds.bind h) hr ha bt).1 fun e aY bd eX=>?_)
 refine tM eX (fun a σ' ρ' hq Rz az=>?_) (fun x a σ' hx hq=>?_)
 ·exact(hg.loop hq az.r Rz (bt.mono az.le)).mono fun _ _ _ hp=>bJ.trans az hp
 ·cases x<;>first | exact absurd rfl hx | exact hq
theorem qF [Env] (hg:Good P Rn) (jc:P.follows .mixedOrders=true) {fn:FuncId} (c:Code) {a:Act} {σ:St} {p:Out×St→Prop} (h:(wh P Rn ro fn a σ c).Holds p) {ρ:Ren} {w:World} {a':Go.Act} (hr:R ρ σ w) (ha:bw ρ a a') (bt:fH ρ ro F):
  c.wpIn F 0 P (bJ p ρ σ w) a' w∧∀x,c=.loop x→ju F P x (bJ p ρ σ w) a' w:=by
 by_cases hl:∃x,c=.loop x
 ·obtain⟨x,rfl⟩:=hl
  obtain⟨h1,h2⟩:=Dw hg jc h hr ha bt
  exact⟨h1,fun y e=>by cases e;exact h2⟩
 ·refine pU (fn:=fn) hg jc c (a:=a) ?_ hr ha bt
  cases c<;>first
   | exact absurd ⟨_,rfl⟩ hl
   | exact h
end
end Go.Ev
end
section
namespace Go.Ev
open Go
section
variable {P:Program} {ρ:Ren} {σ:St} {w:World} {Rn:Task→St→Run}
theorem zQ [Env] {vs:List V} {vs':List Value} (h:au ρ vs vs') (n:Nat):bw ρ (lb n vs) {tmps:=⟨vs'⟩++Array.replicate (n-(⟨vs'⟩:Array Value).size) undef,defers:=[]}:=by
 have hl:=h.length
 refine⟨fun i v hv=>?_,?_,.nil⟩
 ·have lV:(bD.Gn vs (bD.blank n) 0).get i=some v:=hv
  rw[bD.KP] at lV
  have hi:vs[i]? =some v:=by
   split at lV
   ·simpa using lV
   ·rw[bD.IM] at lV;cases lV
  obtain⟨x,hx,aN⟩:=h.get i hi
  refine⟨x,?_,aN⟩
  have bz:i<vs'.length:=(List.getElem?_eq_some_iff.1 hx).1
  show((⟨vs'⟩:Array Value)++_)[i]? =_
  rw[Array.getElem?_append_left (by simpa using bz)]
  simpa using hx
 ·show max n (len vs)=_
  rw[aZ]
  simp
  omega
theorem BG [Env] (hr:R ρ σ w) {a:Act} {a':Go.Act} (ha:bw ρ a a'):∀(rs:List ResultVar) {l:List V},eQ P a σ rs=some l→
  ∃l':List Value,(rs.mapM fun r=>(match r with
   | .tmp t=>pure (a'.tmps.getD t undef)
   | .cell x t=>do loadVar t (←asAddr (a'.tmps.getD x undef)):Sem Value)).run P w=.ok l' w∧au ρ l l':=by
 intro rs
 induction rs with
 | nil=>intro l h;cases h;exact⟨[],rfl,.nil⟩
 | cons r rs ih=>
  intro l h
  have fu:∀ {t:Tmp} {v:V},a.tmps.get t=some v→aq ρ v (a'.tmps.getD t undef):=by
   intro t v hv
   obtain⟨x,hx,aN⟩:=ha.tmps t v hv
   rw[Array.getD_eq_getD_getElem?,hx]
   exact aN
  cases r with
  | tmp t=>
   unfold eQ at h
   split at h
   ·rename_i v cc hv hl
    cases h
    obtain⟨l',aH,aN⟩:=ih hl
    refine⟨a'.tmps.getD t undef::l',?_,.cons (fu hv) aN⟩
    rw[List.mapM_cons]
    simp only[Sem.run_bind,Sem.run_pure,Result.andThen_ok,aH]
   ·cases h
  | cell x t=>
   unfold eQ at h
   split at h
   ·rename_i v cc hv hl
    rw[Option.map_eq_some_iff] at h
    obtain⟨u,hu,rfl⟩:=h
    obtain⟨l',aH,aN⟩:=ih hl
    obtain⟨u',_,VO,ad,had,xg⟩:=zD (P:=P) hr (fu hv) hu
    refine⟨u'::l',?_,.cons VO aN⟩
    rw[List.mapM_cons]
    dsimp only
    have hA:(asAddr (.pointer (some ad))).run P w=.ok ad w:=rfl
    rw[had]
    simp only[Sem.run_bind,hA,Result.andThen_ok,Sem.run_pure,xg,aH]
   ·cases h
theorem Ay [Env] (hr:R ρ σ w) {a:Act} {a':Go.Act} (ha:bw ρ a a') {fn:Func} {l:List V} (h:eQ P a σ fn.results.toList=some l):
  ∃v',(results fn a'.tmps).run P w=.ok v' w∧aq ρ (rl l) v':=by
 obtain⟨l',aH,aN⟩:=BG (P:=P) hr ha _ h
 refine⟨if hh:(⟨l'⟩:Array Value).size=1 then(⟨l'⟩:Array Value)[0] else .tuple ⟨l'⟩,?_,?_⟩
 ·unfold results
  rw[Sem.run_bind,Array.mapM_eq_mapM_toList,Sem.run_map]
  exact congrArg (fun r:Result (List Value)=>((r.andThen fun a w'=>Result.ok a.toArray w').andThen fun a w'=>Sem.run P (pure (if h:a.size=1 then a[0] else Value.tuple a)) w')) aH
 ·cases aN with
  | nil=>exact .tuple .nil
  | cons h1 h2=>cases h2 with
   | nil=>exact h1
   | cons h3 h4=>
    rw[dif_neg (by simp)]
    exact .tuple (.cons h1 (.cons h3 h4))
theorem oD {f:FuncId} {fn:Func} {c:Code} (hf:P.funcs[f]? =some fn) (hb:fn.body=some c) (hn:(fn.name== "runtime.NumGoroutine")=false) (args:Array Value):(callFunc f args).run P w=.ok (.enter f args) w:=by
 have xi:(program).run P w=.ok P w:=rfl
 simp only[callFunc,Sem.run_bind,xi,Result.andThen_ok,hf,hn,Bool.false_eq_true,if_false,hb,Option.isNone_some,Sem.run_pure]
theorem yG [Env] {f:FuncId} {fn:Func} {args:List V} {K:Out×St→Run} {p:Out×St→Prop} (h:(rn Rn f fn args σ K fn.body).Holds p):
  ∃c,fn.body=some c∧(fn.name== "runtime.NumGoroutine")=false∧(Rn (.code none f c (lb fn.ntmps args)) σ).Holds fun x=>(K x).Holds p:=by
 unfold rn at h
 split at h
 ·rename_i c hb
  split at h
  ·exact h.elim
  ·rename_i hn
   exact⟨c,hb,hn,h.bind⟩
 ·exact h.elim
theorem zR [Env] (jc:P.follows .mixedOrders=true) (hg:Good P Rn):Good P (step P Rn):=by
 constructor
 case code=>
  intro ro fn c a σ p h ρ w a' F hr ha bt
  exact(qF hg jc c h hr ha bt).1
 case loop=>
  intro ro fn x a σ p h ρ w a' F hr ha bt
  exact(qF hg jc (.loop x) h hr ha bt).2 x rfl
 case inScope=>
  intro ro fn x cur a σ p h ρ w a' F hr ha bt
  refine xu (wpIn_mono (pU hg jc cur (bu.Holds.bind h) hr ha bt).1 fun e aY bd eX=>?_)
  obtain⟨e,b,σ',ρ',h1,rfl,h3,h4⟩:=eX
  cases e with
  | normal=>exact⟨.normal,_,_,_,h1,rfl,h3,h4⟩
  | exit i=>exact⟨.exit i,_,_,_,h1,rfl,h3,h4⟩
  | ret=>exact⟨.ret,_,_,_,h1,rfl,h3,h4⟩
  | goto l=>
   have fG:(match findLabel x l with
    | some rest=>Rn (.inScope ro fn x rest b) σ'
    | none=>.ok (.exit (.goto l) b,σ'):Run).Holds p:=h1
   refine⟨fun rest hf=>?_,fun hf=>?_⟩
   ·rw[hf] at fG
    exact(hg.inScope fG h4.r h3 (bt.mono h4.le)).mono fun _ _ _ hp=>bJ.trans h4 hp
   ·rw[hf] at fG
    exact⟨.goto l,_,_,_,fG,rfl,h3,h4⟩
 case call=>
  intro f vs σ p h ρ w vs' hr hv
  have h':(mS Rn f vs σ P.funcs[f]?).Holds p:=h
  unfold mS at h'
  split at h'
  ·rename_i fn hf
   obtain⟨c,hb,hn,hc⟩:=yG h'
   refine⟨oD hf hb hn _,callsIn_of_wp_marks hf hb trivial (wpIn_mono (hg.code hc hr (zQ hv fn.ntmps) rfl) fun e aY bd eX=>?_)⟩
   obtain⟨e,b,σ',ρ',h1,rfl,h3,h4⟩:=eX
   have fin:(Rn (.leave fn b) σ').Holds p→LeavesInM Fence.wide 0 P fn aY.tmps (cC p ρ σ w) aY.defers .returning bd:=by
    intro h
    exact LeavesInM.mono (hg.leave h h4.r h3) fun e w' hv=>cC.trans h4 hv
   cases e with
   | normal=>exact fin h1
   | ret=>exact fin h1
   | exit i=>exact bu.Holds.tB h1
   | goto l=>exact bu.Holds.tB h1
  ·exact h'.elim
 case deferred=>
  intro f vs σ p h ρ w vs' hr hv
  exact(show False from h).elim
 case leave=>
  intro fn a σ p h ρ w a' hr ha
  have h':(o9 P Rn fn a σ a.defers).Holds p:=h
  have RA:=ha.defers
  unfold o9 at h'
  split at h'
  ·rename_i hd
   rw[hd] at RA
   have DU:a'.defers=[]:=by
    generalize a'.defers=l at RA
    cases RA;rfl
   rw[DU]
   unfold yl at h'
   split at h'
   ·rename_i l hl
    obtain⟨v',aH,aN⟩:=Ay hr ha hl
    exact⟨v',aH,_,_,ρ,v',h',rfl,aN,bc.refl hr⟩
   ·exact h'.elim
  ·exact h'.elim
 case apply=>
  intro f vs σ p h ρ w f' vs' hr hf hv
  have h':(th Rn vs σ f).Holds p:=h
  unfold th at h'
  split at h'
  ·rename_i g first captured
   cases hf with
   | func RB hx hy=>
    rename_i IW x' y'
    have YS:IW=.func g:=by cases RB with | same _=>rfl
    subst YS
    obtain⟨Jf,eV⟩:=hg.call h' hr (vs':=x'++(vs'++y')) (by rw[gD,gD];exact hx.append (hv.append hy))
    refine⟨{target:=.fn (.func g) ⟨y'⟩,args:=⟨x'⟩++⟨vs'⟩},rfl,.inl ⟨g,⟨x'++(vs'++y')⟩,?_,eV⟩⟩
    have e1:((⟨x'⟩++⟨vs'⟩:Array Value)++⟨y'⟩)=⟨x'++(vs'++y')⟩:=by simp
    simp only[invoke]
    rw[e1];exact Jf
  ·exact h'.elim
 case round=>
  intro l vs σ p h ρ w k vs' hr hl hv
  exact h.elim
end
end Go.Ev
end
