/- Proved: parts of the way: DrawF, Range, Sound, Tasks. -/
import Derived.Test.YtbajncpfmemdgaaGreatDoorEvQ08
import Derived.Test.YtbajncpfmemdgaaGreatDoorEvQ07
section
namespace Go.Ev
open Go
section
variable {P:Program} {Rn:Task→St→Run} {ro:Option Nat} {p:Out×St→Prop} {W:List Nat} {base:Nat} {listed:Array Bool} {a':Go.Act} {w:World} {o:Oper}
variable {F:Fence} {bT:aA} {σ₀:St} {fx:World}
theorem PR [Env] (hg:Good P Rn) {ops:Array Oper} (hp:nq ops.toList W) (hI:Inv P Rn ro F p ops.toList W base bT σ₀ fx listed a' w) {i:Nat} (ho:ops.toList[i]? =some o) (En:bC o.op=true) (hl:¬cN listed i)
  (hW:∀j,(W.getD i 0).testBit j=true→j<ops.toList.length∧cN listed j) {K:Go.Act→World→Prop} {Q:Exit→Go.Act→World→Prop}
  (hK:∀jF fr,Inv P Rn ro F p ops.toList W base bT σ₀ fx (listed.setIfInBounds i true) jF fr→K jF fr):wpOpIn F 0 P ops Q i K a' w:=by
 obtain⟨D,done,effs,snaps,a,σ,b,bj,ρ,hB,hA,iy,aF,bk⟩:=hI
 have bE:=iE ho
 have mO:done.testBit i=false:=by
  cases hd:done.testBit i with
  | false=>rfl
  | true=>exact absurd (hA.mg i hd).2 hl
 obtain⟨D1,it,D2,rfl,rfl⟩:=nr hA.lQ i bE mO
 have cH:∀x∈D1,cN listed x.i:=by
  obtain⟨ln,ep,h1,h2,h3,_,_⟩:=xZ hA.lQ
  obtain⟨o',ko,_,_,h5,_⟩:=dj h1
  rw[ho] at ko;cases ko
  exact fun x hx=>(hW _ ((h5 En).1 _ (h3 x hx))).2
 obtain⟨dn,aY,bL,gY,qF,_⟩:=NU hp hB hA cH
 obtain⟨o',ko,mf,mN,acd,_⟩:=dj gY.lQ
 rw[ho] at ko;cases ko
 obtain⟨aki,jZ⟩:=acd En
 obtain⟨o',ko,mP⟩:=Aq gY.holds
 rw[ho] at ko;cases ko
 have ll:=y8 hp hB (gY.walk (ρ:=ρ)) ho hW
 have XQ:=vG (b:=b) ll gY.sz.symm gY.df mP
 have cg:ρ (base+it.i)=none:=hB.jn _ bE hl
 have hi:ops[it.i]? =some o:=by rw[←Array.getElem?_toList];exact ho
 have Cd:=gY.Eo
 have hrm:=gY.room
 have sc:R ρ bL w:=hB.rel.sub gY.sub gY.Eo
 refine q4 hg sc cg hB.act iy hi XQ ?_
 rintro PQ jG nW ace Ax ⟨Er,⟨_,jY⟩,hf⟩ Es cc
 rw[En] at jY
 obtain⟨za,PS,jN⟩:=U1 (((List.range ops.toList.length).filter fun j=>listed.getD j true&& !dn.testBit j).map fun j=>base+j) (fun c=>bj.heap.get c) jG
 have cZ:∀c,(c∈((List.range ops.toList.length).filter fun j=>listed.getD j true&& !dn.testBit j).map fun j=>base+j)↔∃j,j<ops.toList.length∧cN listed j∧dn.testBit j=false∧c=base+j:=by
  intro c
  simp only[List.mem_map,List.mem_filter,List.mem_range,Bool.and_eq_true,Bool.not_eq_true']
  constructor
  ·rintro⟨j,⟨h1,h2,h3⟩,h4⟩;exact⟨j,h1,h2,h3,h4.symm⟩
  ·rintro⟨j,h1,h2,h3,h4⟩;exact⟨j,⟨h1,h2,h3⟩,h4.symm⟩
 have PT:∀j,j<ops.toList.length→j≠it.i→dn.testBit j=false→jG.heap.get (base+j)=none:=by
  intro j hj bS hd
  cases hg3:jG.heap.get (base+j) with
  | none=>rfl
  | some k=>
   rcases cc.jC _ _ hg3 with ⟨k',h⟩ | h | h
   ·rw[gY.fresh j hj hd] at h;cases h
   ·omega
   ·exact absurd (by omega) bS
 have cW:∀j,j<ops.toList.length→cN listed j→dn.testBit j=false→za.heap.get (base+j)=bj.heap.get (base+j):=fun j h1 h2 h3=>by
  rw[jN,if_pos ((cZ _).2 ⟨j,h1,h2,h3,rfl⟩)]
 have Eu:∀c k l,(∃j,j<ops.toList.length∧cN listed j∧dn.testBit j=false∧c=base+j)→bj.heap.get c=some k→ρ c=some l→¬Wr ρ bL l.c:=by
  rintro c k l ⟨j,h1,h2,h3,rfl⟩ hk cm ⟨c',k',l',h4,_,h5,h6⟩
  have:=hB.rel.inj c' _ _ _ _ _ (gY.sub _ _ h4) hk h5 cm h6
  rw[this,gY.fresh j h1 h3] at h4
  cases h4
 have Tr:∀c k,jG.heap.get c=some k→za.heap.get c=some k:=by
  intro c k hc
  rw[jN]
  by_cases hm:c∈((List.range ops.toList.length).filter fun j=>listed.getD j true&& !dn.testBit j).map fun j=>base+j
  ·obtain⟨j,h1,h2,h3,rfl⟩:=(cZ c).1 hm
   rw[PT j h1 (fun e=>hl (e▸h2)) h3] at hc;cases hc
  ·rw[if_neg hm];exact hc
 have hR3:R nW za Ax:=by
  refine⟨fun c k hc=>?_,fun c c' k k' l l' h1 h2 g1 g2 e=>?_,fun c hc=>cc.r.fresh c (by rw[←PS];exact hc),cc.r.valid,fun q o x hx=>⟨(cc.r.aV q o x hx).1,?_⟩,cc.r.laid⟩
  ·rw[jN] at hc
   by_cases hm:c∈((List.range ops.toList.length).filter fun j=>listed.getD j true&& !dn.testBit j).map fun j=>base+j
   ·rw[if_pos hm] at hc
    obtain⟨l,cm,cE⟩:=hB.rel.di c k hc
    exact⟨l,cc.le _ _ cm,cE.same cc.le (cc.aQ _ (hB.rel.valid _ _ cm) (Eu c k l ((cZ c).1 hm) hc cm))⟩
   ·rw[if_neg hm] at hc;exact cc.r.di c k hc
  ·have Ts:∀ {c c':Nat} {k k':bU} {l l':Loc},(∃j,j<ops.toList.length∧cN listed j∧dn.testBit j=false∧c=base+j)→bj.heap.get c=some k→jG.heap.get c'=some k'→nW c=some l→nW c'=some l'→l.c=l'.c→False:=by
    intro c c' k k' l l' hm h1 h2 g1 g2 e
    obtain⟨cw,eo,_⟩:=hB.rel.di c k h1
    have:l=cw:=by rw[cc.le _ _ eo] at g1;exact(Option.some.inj g1).symm
    subst this
    have hv:=hB.rel.valid _ _ eo
    exact Eu c k l hm h1 eo (e▸cc.wr l'.c (e▸hv) ⟨c',k',l',h2,rfl,g2,rfl⟩)
   rw[jN] at h1 h2
   by_cases m1:c∈((List.range ops.toList.length).filter fun j=>listed.getD j true&& !dn.testBit j).map fun j=>base+j
   ·rw[if_pos m1] at h1
    by_cases m2:c'∈((List.range ops.toList.length).filter fun j=>listed.getD j true&& !dn.testBit j).map fun j=>base+j
    ·rw[if_pos m2] at h2
     obtain⟨cw,eo,_⟩:=hB.rel.di c k h1
     obtain⟨mD,qH,_⟩:=hB.rel.di c' k' h2
     have e1:l=cw:=by rw[cc.le _ _ eo] at g1;exact(Option.some.inj g1).symm
     have e2:l'=mD:=by rw[cc.le _ _ qH] at g2;exact(Option.some.inj g2).symm
     subst e1 e2
     exact hB.rel.inj _ _ _ _ _ _ h1 h2 eo qH e
    ·rw[if_neg m2] at h2
     exact(Ts ((cZ c).1 m1) h1 h2 g1 g2 e).elim
   ·rw[if_neg m1] at h1
    by_cases m2:c'∈((List.range ops.toList.length).filter fun j=>listed.getD j true&& !dn.testBit j).map fun j=>base+j
    ·rw[if_pos m2] at h2
     exact(Ts ((cZ c').1 m2) h2 h1 g2 g1 e.symm).elim
    ·rw[if_neg m2] at h2
     exact cc.r.inj _ _ _ _ _ _ h1 h2 g1 g2 e
  ·rintro⟨c',k,l,h1,h2,h3,h4⟩
   rw[jN] at h1
   by_cases m1:c'∈((List.range ops.toList.length).filter fun j=>listed.getD j true&& !dn.testBit j).map fun j=>base+j
   ·rw[if_pos m1] at h1
    obtain⟨cw,eo,_⟩:=hB.rel.di c' k h1
    have e1:l=cw:=by rw[cc.le _ _ eo] at h3;exact(Option.some.inj h3).symm
    subst e1
    subst h4
    rcases cc.hH l.c o x hx with g | g | g
    ·exact(hB.rel.aV _ _ _ g).2 ⟨c',k,l,h1,rfl,eo,rfl⟩
    ·have:=hB.rel.valid _ _ eo;omega
    ·exact Eu c' k l ((cZ c').1 m1) h1 eo g
   ·rw[if_neg m1] at h1
    exact(cc.r.aV q o x hx).2 ⟨c',k,l,h1,h2,h3,h4⟩
 have PU:∀c,Wr ρ bL c→Wr ρ bj c:=fun c ⟨c',k,l,h1,h2,h3,h4⟩=>⟨c',k,l,gY.sub _ _ h1,h2,h3,h4⟩
 have acf:aW (fun c=>c=base+it.i) ρ bj w nW za Ax:=by
  refine⟨hR3,cc.le,by rw[PS,←Cd];exact cc.next,fun c l hc=>by rw[←Cd];exact cc.jn c l hc,cc.size,cc.os,cc.tape,cc.output,fun c hc hn=>cc.aQ c hc fun h=>hn (PU c h),?_,fun c k hc=>?_,fun c o x hx=>(cc.hH c o x hx).imp id (Or.imp id (PU c))⟩
  ·rintro c hc ⟨c',k,l,h1,h2,h3,h4⟩
   rw[jN] at h1
   by_cases m1:c'∈((List.range ops.toList.length).filter fun j=>listed.getD j true&& !dn.testBit j).map fun j=>base+j
   ·rw[if_pos m1] at h1
    obtain⟨cw,eo,_⟩:=hB.rel.di c' k h1
    have e1:l=cw:=by rw[cc.le _ _ eo] at h3;exact(Option.some.inj h3).symm
    subst e1
    exact⟨c',k,l,h1,rfl,eo,h4⟩
   ·rw[if_neg m1] at h1
    exact PU c (cc.wr c hc ⟨c',k,l,h1,h2,h3,h4⟩)
  ·rw[jN] at hc
   by_cases m1:c∈((List.range ops.toList.length).filter fun j=>listed.getD j true&& !dn.testBit j).map fun j=>base+j
   ·rw[if_pos m1] at hc;exact .inl ⟨k,hc⟩
   ·rw[if_neg m1] at hc
    rcases cc.jC c k hc with ⟨k',h⟩ | h | h
    ·exact .inl ⟨k',gY.sub _ _ h⟩
    ·exact .inr (.inl (by rw[←Cd];exact h))
    ·exact .inr (.inr h)
 have xw:∀ {j},cN (listed.setIfInBounds it.i true) j↔cN listed j∨j=it.i:=cN.set (by omega)
 have vK:∀ {j},(Nat.lor dn (2^it.i)).testBit j=false→dn.testBit j=false∧it.i≠j:=by
  intro j hj
  rw[dK] at hj
  simpa using hj
 have zd:∀ {j},dn.testBit j=false→done.testBit j=false:=by
  intro j hj
  cases hd:done.testBit j with
  | false=>rfl
  | true=>rw[gY.mono.1 j hd] at hj;cases hj
 refine hK ace Ax ⟨D2,Nat.lor dn (2^it.i),it.i::effs,jG::snaps,Er,jG,PQ,za,nW,⟨?_,?_,hR3,Es,⟨_,rfl⟩,by simp [hB.len],Tr,?_,?_,?_⟩,⟨jZ,jY,⟨fun _ h=>h,(pQ gY.mono mN).2⟩,?_,by rw[hf.sa,hf.sb];exact gY.sz,hf.d,PS.symm,Nat.le_trans gY.room cc.next,Tr,?_,?_⟩,iy.mono cc.le,
  aF.trans (acf.weaken fun c hc=>by rw[hc];exact Nat.le_add_right _ _),by simpa using bk⟩
 ·intro j hj dx k hk
  rcases xw.1 dx with dx | rfl
  ·exact⟨(hB.closed j hj dx k hk).1,xw.2 (.inl (hB.closed j hj dx k hk).2)⟩
  ·exact⟨(hW k hk).1,xw.2 (.inl (hW k hk).2)⟩
 ·intro j oj hj dx iF
  obtain⟨h1,h2⟩:=vK iF
  exact hB.ne j oj hj ((xw.1 dx).resolve_right fun e=>h2 e.symm) (zd h1)
 ·intro j hj iF
  obtain⟨h1,h2⟩:=vK iF
  exact PT j hj (fun e=>h2 e.symm) h1
 ·intro j hj dx
  cases hr:nW (base+j) with
  | none=>rfl
  | some l=>
   rcases cc.jn _ _ hr with h | h | h
   ·rw[hB.jn j hj fun h=>dx (xw.2 (.inl h))] at h;cases h
   ·omega
   ·exact absurd (xw.2 (.inr (by omega))) dx
 ·intro j oj hj dx iF
  obtain⟨h1,h2⟩:=vK iF
  have dx:=(xw.1 dx).resolve_right fun e=>h2 e.symm
  have HH:=iE hj
  have Et:=hB.ne j oj hj dx (zd h1)
  have Tt:(W.getD j 0).testBit it.i=false:=by
   cases hw:(W.getD j 0).testBit it.i with
   | false=>rfl
   | true=>exact absurd (hB.closed j HH dx _ hw).2 hl
  obtain⟨u,hu,Em⟩:=hB.PN j oj hj dx (zd h1)
  have qG:∀t∈looks ops.toList oj,PQ.tmps.get t=b.tmps.get t:=by
   intro t ht
   refine hf.KZ t fun hd=>?_
   rcases(hp.data _ _ _ _ _ hj ho hd ht).2 with h | ⟨_,h⟩
   ·rw[Tt] at h;cases h
   ·rw[mN j h] at h1;cases h1
  refine⟨u,fun t ht=>?_,?_⟩
  ·rw[hf.KZ t fun hd=>h2 (hp.XL _ _ _ _ _ ho hj hd ht)]
   exact hu t ht
  ·rw[cW j HH dx h1]
   rcases Em with h | h | ⟨r1,r2,q,τ,r3,r4,r5,r6⟩
   ·
    obtain⟨E1,itj,E2,hE,uJ⟩:=nr jZ j HH iF
    rw[hE] at jZ
    obtain⟨akr,ep,q1,_,_,_,q5⟩:=xZ jZ
    obtain⟨oj',XR,_,_,_,q6⟩:=dj q1
    rw[uJ,hj] at XR;cases XR
    obtain⟨q7,q8,_⟩:=q6 Et
    have B9:itj.back≠0:=by
     intro e0
     unfold vd at q7
     rw[e0,List.drop_zero,uJ] at q7
     cases ep with
     | nil=>
      have Tu:(W.getD j 0).testBit it.i=true:=q7
      rw[Tt] at Tu;cases Tu
     | cons f ep=>
      have Tu:(W.getD j 0).testBit f=true:=q7
      obtain⟨r1,of,r2,r3⟩:=q5 f List.mem_cons_self
      obtain⟨r4,r5⟩:=vK r1
      have:=hB.ne f of r2 (hB.closed j HH dx f Tu).2 (zd r4)
      rw[r3] at this;cases this
    have HA:(bj.kill (base+j)).heap.get (base+j)=none:=by rw[iO,if_pos rfl]
    by_cases hr:sP P oj.op=true
    ·have e1:=Ej hr h
     have iC:bj.heap.get (base+j)=none:=wO HA e1
     obtain⟨r,gB⟩:=hB.head
     refine .inr (.inr ⟨hr,iC,1,σ,by rw[gB];rfl,Nat.le_refl _,fun f HI=>?_,fun u' jf hh=>?_⟩)
     ·have:f=it.i:=by simpa using HI
      rw[this];exact Tt
     ·rw[kp qG] at hh
      have e2:=Ej hr hh
      rw[e2] at hh
      have vI:=hB.fresh j HH (zd h1)
      have:=Aw (κ:=none) Et hB.act vI hh (El hB.sub vI)
      rw[h] at this
      exact((Prod.mk.inj (bw.ok.inj this)).1).symm
    ·have afy:et P oj.op=false:=by
      rcases q8 with h | h | h
      ·exact absurd h B9
      ·exact absurd h hr
      ·exact h
     obtain⟨v',xq,he,cH⟩:=Ef (P:=P) (id:=base+j) (ops:=ops.toList) (a:=b) Et afy (xY hr) (bj.kill (base+j)) (fun r=>r=(u,(bj.kill (base+j)).ext (base+j) (bj.heap.get (base+j)))) (by rw[h];exact rfl)
     have e1:v'=u:=(Prod.mk.inj he).1
     have e2:xq=bj.heap.get (base+j):=wO HA (Prod.mk.inj he).2
     subst e1
     exact .inr (.inl fun σ'=>by rw[kp qG,cH,e2])
   ·exact .inr (.inl fun σ'=>by rw[kp qG];exact h σ')
   ·refine .inr (.inr ⟨r1,r2,q+1,τ,r3,by omega,fun f HI=>?_,fun u' jf hh=>r6 u' jf (by rw[←kp qG];exact hh)⟩)
    rw[List.take_succ_cons] at HI
    rcases List.mem_cons.1 HI with rfl | HI
    ·exact Tt
    ·exact r5 f HI
 ·intro j hj
  rw[dK] at hj
  simp only[Bool.or_eq_true,decide_eq_true_eq] at hj
  rcases hj with hj | rfl
  ·exact⟨(gY.mg j hj).1,xw.2 (.inl (gY.mg j hj).2)⟩
  ·exact⟨bE,xw.2 (.inr rfl)⟩
 ·intro j hj iF
  obtain⟨h1,h2⟩:=vK iF
  exact PT j hj (fun e=>h2 e.symm) h1
 ·intro t ht
  by_cases hd:o.dst=some t
  ·exact hf.at_ t hd
  ·rw[hf.Tn t hd,hf.KZ t hd]
   refine gY.o5 t fun j oj hj dx iF=>?_
   by_cases e:it.i=j
   ·subst e;exact absurd dx hl
   ·exact ht j oj hj (xw.2 (.inl dx)) (by rw[dK,iF];simp [e])
theorem Ce [Env] {L:List Oper} (hp:nq L W) (hb:base=σ₀.next) (hI:Inv P Rn ro F p L W base bT σ₀ fx listed a' w) (cH:∀i,i<L.length→cN listed i):bP p bT σ₀ fx .normal a' w:=by
 obtain⟨D,done,effs,snaps,a,σ,b,bj,ρ,hB,hA,iy,aF,bk⟩:=hI
 have hlD:∀x∈D,cN listed x.i:=by
  intro x hx
  obtain⟨D1,D2,rfl⟩:=List.append_of_mem hx
  obtain⟨_,_,h1,_⟩:=xZ hA.lQ
  obtain⟨o,ho,_⟩:=dj h1
  exact cH _ (iE ho)
 have hA':Cc P Rn ro p L W base listed done effs snaps b bj (D++[]) done a σ:=by rw[List.append_nil];exact hA
 obtain⟨dn,aY,bL,gY,_,_⟩:=NU hp hB hA' hlD
 have Ay:p (.exit .normal aY,bL):=gY.holds
 have mf:∀j,j<L.length→dn.testBit j=true:=by
  have h':(List.range L.length).all dn.testBit=true:=gY.lQ
  exact fun j hj=>List.all_eq_true.1 h' j (List.mem_range.2 hj)
 have fe:∀t,aY.tmps.get t=b.tmps.get t:=fun t=>gY.o5 t fun j oj hj _ hd=>by rw[mf j (iE hj)] at hd;cases hd
 have mL:=aF.sub gY.sub gY.Eo
 refine⟨.normal,aY,bL,ρ,Ay,rfl,⟨fun t v hv=>hB.act.tmps t v (by rw[←fe];exact hv),by rw[gY.sz];exact hB.act.size,by rw[gY.df];exact hB.act.defers⟩,?_⟩
 refine⟨mL.r,mL.le,mL.next,fun c l hc=>?_,mL.size,mL.os,mL.tape,mL.output,mL.aQ,mL.wr,fun c k hc=>?_,mL.hH⟩
 ·rcases mL.jn c l hc with h | h | h
  ·exact .inl h
  ·exact .inr (.inl h)
  ·exact .inr (.inl (by rw[←hb];exact h))
 ·rcases mL.jC c k hc with h | h | h
  ·exact .inl h
  ·exact .inr (.inl h)
  ·exact .inr (.inl (by rw[←hb];exact h))
theorem K2 [Env] {L:List Oper}:∀ {D:List Item} {dn:Nat} {ef:List Nat},dF P L W dn ef D=true→(∀j,dn.testBit j=true→j<L.length∧cN listed j)→
  (∀i,i<L.length→cN listed i)∨∃i o,L[i]? =some o∧¬cN listed i∧∀j,(W.getD i 0).testBit j=true→j<L.length∧cN listed j:=by
 intro D
 induction D with
 | nil=>
  intro dn ef h mf
  have h':(List.range L.length).all dn.testBit=true:=h
  exact .inl fun i hi=>(mf i (List.all_eq_true.1 h' i (List.mem_range.2 hi))).2
 | cons it D ih=>
  intro dn ef h mf
  obtain⟨o,ho,_,mN,h1,h2⟩:=dj h
  by_cases hl:cN listed it.i
  ·have XS:∀j,(Nat.lor dn (2^it.i)).testBit j=true→j<L.length∧cN listed j:=by
    intro j hj
    rw[dK] at hj
    simp only[Bool.or_eq_true,decide_eq_true_eq] at hj
    rcases hj with hj | rfl
    ·exact mf j hj
    ·exact⟨iE ho,hl⟩
   cases he:bC o.op with
   | true=>exact ih (h1 he).2 XS
   | false=>exact ih (h2 he).2.2 XS
  ·exact .inr ⟨it.i,o,ho,hl,fun j hj=>mf j (mN j hj)⟩
def Ew (n:Nat) (listed:Array Bool):Nat:=(List.range n).countP fun i=> !listed.getD i true
theorem U3 [Env] {n i:Nat} (hi:i<n) (hs:listed.size=n) (hl:¬cN listed i):Ew n (listed.setIfInBounds i true)<Ew n listed:=by
 unfold Ew
 have hle:∀(l:List Nat),l.countP (fun j=> !(listed.setIfInBounds i true).getD j true)+(if i∈l then 1 else 0)≤l.countP fun j=> !listed.getD j true:=by
  intro l
  induction l with
  | nil=>simp
  | cons x l ih=>
   rw[List.countP_cons,List.countP_cons]
   have hx:cN (listed.setIfInBounds i true) x↔cN listed x∨x=i:=cN.set (by omega)
   by_cases e:x=i
   ·subst e
    have h1:(listed.setIfInBounds x true).getD x true=true:=hx.2 (.inr rfl)
    have h2:listed.getD x true=false:=by
     cases hq:listed.getD x true with
     | false=>rfl
     | true=>exact absurd hq hl
    rw[h1,h2]
    simp only[List.mem_cons,true_or,if_true,Bool.not_true,Bool.false_eq_true,if_false,Bool.not_false]
    have:(if x∈l then 1 else 0)≤1:=by split<;>omega
    omega
   ·have h1:(listed.setIfInBounds i true).getD x true=listed.getD x true:=by
     cases hq:listed.getD x true with
     | true=>exact hx.2 (.inl hq)
     | false=>
      cases og:(listed.setIfInBounds i true).getD x true with
      | false=>rfl
      | true=>
       rcases hx.1 og with h | h
       ·have h':listed.getD x true=true:=h
        rw[hq] at h';cases h'
       ·exact absurd h e
    have bS:¬i=x:=fun h=>e h.symm
    rw[h1]
    simp only[List.mem_cons,bS,false_or]
    omega
 have:=hle (List.range n)
 rw[if_pos (List.mem_range.2 hi)] at this
 omega
theorem NV [Env] (hg:Good P Rn) {ops:Array Oper} (hp:nq ops.toList W) (hb:base=σ₀.next):∀(fuel:Nat) {listed:Array Bool} {a':Go.Act} {w:World},Inv P Rn ro F p ops.toList W base bT σ₀ fx listed a' w→Ew ops.toList.length listed≤fuel→
  wpAnyIn F 0 P .any ops (bP p bT σ₀ fx) fuel listed a' w:=by
 have K3:∀ {listed:Array Bool} {i:Nat},i∈Region.ready .any ops listed↔listed.getD i true=false∧∃o,ops[i]? =some o∧∀e∈o.after,Region.binds .any e=true→listed.getD e.on false=true:=mem_ready
 have Tv:∀ {listed:Array Bool} {j:Nat},listed.size=ops.toList.length→(listed.getD j false=true↔j<ops.toList.length∧cN listed j):=by
  intro listed j hs
  unfold cN
  rw[Array.getD_eq_getD_getElem?,Array.getD_eq_getD_getElem?]
  by_cases hj:j<listed.size
  ·have h1:j<ops.toList.length:=by rw[←hs];exact hj
   rw[Array.getElem?_eq_getElem hj]
   exact⟨fun h=>⟨h1,h⟩,fun h=>h.2⟩
  ·rw[Array.getElem?_eq_none (by omega)]
   exact⟨fun h=>(by cases h),fun h=>absurd h.1 (by rw[←hs];exact hj)⟩
 have XT:∀ {listed:Array Bool} {a':Go.Act} {w:World},Inv P Rn ro F p ops.toList W base bT σ₀ fx listed a' w→Region.ready .any ops listed=[]→∀i,i<ops.toList.length→cN listed i:=by
  intro listed a' w hI s9
  obtain⟨D,done,effs,snaps,a,σ,b,bj,ρ,hB,hA,iy,aF,bk⟩:=hI
  rcases K2 hA.lQ hA.mg with h | ⟨i,o,ho,hl,hW⟩
  ·exact h
  ·have:i∈Region.ready .any ops listed:=by
    refine K3.2 ⟨?_,o,by rw[←Array.getElem?_toList];exact ho,fun e he Ey=>?_⟩
    ·cases hq:listed.getD i true with
     | false=>rfl
     | true=>exact absurd hq hl
    ·refine(Tv bk).2 (hW _ ?_)
     rw[hp.wait i o ho]
     exact y7.2 ⟨e,he,Ey,.inl rfl⟩
   rw[s9] at this;cases this
 intro fuel
 induction fuel with
 | zero=>
  intro listed a' w hI hf
  have cH:∀i,i<ops.toList.length→cN listed i:=by
   intro i hi
   cases hq:listed.getD i true with
   | true=>exact hq
   | false=>
    have:0<Ew ops.toList.length listed:=by
     unfold Ew
     exact List.countP_pos_iff.2 ⟨i,List.mem_range.2 hi,by rw[hq];rfl⟩
    omega
  refine⟨?_,Ce hp hb hI cH⟩
  rw[List.eq_nil_iff_forall_not_mem]
  intro i hi
  obtain⟨h1,o,ho,_⟩:=K3.1 hi
  have:cN listed i:=cH i (iE (by rw[Array.getElem?_toList];exact ho))
  unfold cN at this
  rw[h1] at this;cases this
 | succ fuel ih=>
  intro listed a' w hI hf
  refine⟨fun s9=>Ce hp hb hI (XT hI s9),fun i hi=>?_⟩
  obtain⟨h1,o,ho,hed⟩:=K3.1 hi
  have Tw:ops.toList[i]? =some o:=by rw[Array.getElem?_toList];exact ho
  have hl:¬cN listed i:=by unfold cN;rw[h1];simp
  obtain⟨D,done,effs,snaps,a,σ,b,bj,ρ,hB,hA,iy,aF,bk⟩:=id hI
  have hW:∀j,(W.getD i 0).testBit j=true→j<ops.toList.length∧cN listed j:=by
   intro j hj
   rw[hp.wait i o Tw] at hj
   obtain⟨e,he,Ey,XU⟩:=y7.1 hj
   have:=(Tv bk).1 (hed e he Ey)
   rcases XU with rfl | XU
   ·exact this
   ·exact hB.closed _ this.1 this.2 j XU
  have hK:∀jF fr,Inv P Rn ro F p ops.toList W base bT σ₀ fx (listed.setIfInBounds i true) jF fr→wpAnyIn F 0 P .any ops (bP p bT σ₀ fx) fuel (listed.setIfInBounds i true) jF fr:=by
   intro jF fr hI'
   have:=U3 (iE Tw) bk hl
   exact ih hI' (by omega)
  cases he:bC o.op with
  | true=>exact PR hg hp hI Tw he hl hW hK
  | false=>exact U2 hg hp hI Tw he hl hW hK
theorem G7 [Env] (hg:Good P Rn) (jV:P.follows .mixedOrders=true) {ρ:aA} {σ:St} (hr:R ρ σ w) {a:Act} {a':Go.Act} (ha:bD ρ a a') (bq:fK ρ ro F) {id:Nat} {ops:Array Oper} {p:Out×St→Prop}
  (h:((wI P ops.toList true).f Rn ro a σ).ar p):(Code.region id ops true).wpIn F 0 P (bP p ρ σ w) a' w:=by
 refine wpIn_region_any jV ?_
 unfold wI at h
 dsimp only at h
 split at h
 ·rename_i l hl
  obtain⟨W,hp,jZ⟩:=G5 hl
  have hn:(ahead (len ops.toList) σ).next=σ.next+ops.toList.length:=by obtain⟨hh,m⟩:=σ;rw[aP];rfl
  have hh:∀c,(ahead (len ops.toList) σ).heap.get c=σ.heap.get c:=by intro c;obtain⟨hh,m⟩:=σ;rfl
  have PV:∀i,i<ops.toList.length→¬cN (Array.replicate ops.size false) i:=by
   intro i hi hl
   unfold cN at hl
   rw[Array.getD_eq_getD_getElem?] at hl
   simp at hi
   simp [hi] at hl
  have pH:∀i,i<ops.toList.length→ρ (σ.next+i)=none:=fun i _=>hr.fresh _ (Nat.le_add_right _ _)
  have gB:R ρ (ahead (len ops.toList) σ) {w with drawn:=w.drawn+1}:=
   ⟨fun c k hc=>by rw[hh] at hc;exact(hr.congr (w':={w with drawn:=w.drawn+1}) rfl).di c k hc,fun c c' k k' l l' h1 h2=>by rw[hh] at h1 h2;exact hr.inj c c' k k' l l' h1 h2,fun c hc=>hr.fresh c (by rw[hn] at hc;omega),hr.valid,
    fun c o x hx=>⟨(hr.aV c o x hx).1,fun⟨c',k,l,h1,h2,h3,h4⟩=>(hr.aV c o x hx).2 ⟨c',k,l,by rw[←hh];exact h1,h2,h3,h4⟩⟩,hr.laid⟩
  refine NV (base:=σ.next) hg hp rfl ops.size ⟨l,0,[],[_],a,_,a,_,ρ,⟨?_,?_,gB,ha,⟨[],rfl⟩,rfl,fun _ _ h=>h,?_,?_,?_⟩,⟨jZ,h,⟨fun _ h=>h,fun j k hj _=>by simp at hj⟩,fun i hi=>by simp at hi,rfl,rfl,rfl,by rw[hn];exact Nat.le_refl _,fun _ _ h=>h,?_,fun _ _=>rfl⟩,bq,?_,by simp⟩ ?_
  ·intro i hi hl;exact absurd hl (PV i hi)
  ·intro i o ho hl;exact absurd hl (PV i (iE ho))
  ·intro i hi _;rw[hh];exact hr.oA (pH i hi)
  ·intro i hi _;exact pH i hi
  ·intro i o ho hl;exact absurd hl (PV i (iE ho))
  ·intro i hi _;rw[hh];exact hr.oA (pH i hi)
  ·exact⟨gB,aA.le.refl ρ,by rw[hn];omega,fun _ _ h=>.inl h,Nat.le_refl _,rfl,rfl,rfl,fun _ _ _=>rfl,fun c _ ⟨c',k,l,h1,h2,h3,h4⟩=>⟨c',k,l,by rw[←hh];exact h1,h2,h3,h4⟩,fun c k hc=>.inl ⟨k,by rw[←hh];exact hc⟩,fun _ _ _ h=>.inl h⟩
  ·have:=List.countP_le_length (p:=fun i=> !(Array.replicate ops.size false).getD i true) (l:=List.range ops.toList.length)
   simpa [Ew] using this
 ·exact h.elim
end
end Go.Ev
end
section
namespace Go.Ev
open Go
section
variable {P:Program} {ρ:aA} {σ:St} {w:World} {Rn:Task→St→Run} {F:Fence} {ro:Option Nat}
theorem aW.drop [Env] {ids:Nat→Prop} (h:R ρ σ w) {b:Nat} {k:bU} {l:Loc} (hk:σ.heap.get b=some k) (hl:ρ b=some l) (pD:k.j9=true)
  {w':World} (bk:w'.heap.size=w.heap.size) (pE:∀c,c≠l.c→w'.heap[c]? =w.heap[c]?) (ho:w'.os=w.os) (ht:w'.tape=w.tape) (hp:w'.output=w.output):
  aW ids ρ σ w ρ (σ.kill b) w':=by
 have key:∀b' k,(σ.kill b).heap.get b'=some k→b'≠b∧σ.heap.get b'=some k:=by
  intro b' k bA
  rw[l9,Trie.b9] at bA
  by_cases e:b'=b
  ·rw[if_pos e] at bA;cases bA
  ·rw[if_neg e] at bA;exact⟨e,bA⟩
 have mC:∀c,c<w.heap.size→¬Wr ρ σ c→w'.heap[c]? =w.heap[c]? :=fun c hc hn=>pE c fun e=>hn ⟨b,k,l,hk,pD,hl,e.symm⟩
 have ma:∀c,c<w.heap.size→Wr ρ (σ.kill b) c→Wr ρ σ c:=by
  rintro c hc ⟨b',k₁,l',h1,h2,h3,h4⟩
  exact⟨b',k₁,l',(key _ _ h1).2,h2,h3,h4⟩
 refine⟨⟨fun b' k₁ bA=>?_,fun dd dg k₁ k₂ cw mD h1 h2=>h.inj dd dg k₁ k₂ cw mD (key _ _ h1).2 (key _ _ h2).2,fun b' bA=>h.fresh b' (by simpa using bA),fun b' l' bA=>by rw[bk];exact h.valid b' l' bA,h.rN rfl mC ma,h.laid⟩,
  aA.le.refl ρ,by simp,fun _ _ h=>.inl h,by omega,ho,ht,hp,mC,ma,fun b' k h=>.inl ⟨k,(key b' k h).2⟩,fun _ _ _ h=>.inl h⟩
 ·obtain⟨bS,XV⟩:=key _ _ bA
  obtain⟨l',cm,eV⟩:=h.di b' k₁ XV
  exact⟨l',cm,eV.same (aA.le.refl ρ) (pE _ fun ec=>bS (h.inj b' b _ _ _ _ XV hk cm hl ec))⟩
theorem XW [Env] (hr:R ρ σ w) {ids:Nat→Prop} {b:Nat} {kb k:bU} (hb:σ.heap.get b=some kb) (pD:kb.j9=true) {l:Loc} (hl:ρ b=some l) {o:Obj}
  (cE:fN ρ {w with heap:=w.heap.setIfInBounds l.c o} l k):aW ids ρ σ w ρ (σ.set b k) {w with heap:=w.heap.setIfInBounds l.c o}:=by
 refine aW.set hr hb hl pD (by simp) (fun c hc=>?_) rfl rfl rfl cE
 show(w.heap.setIfInBounds l.c _)[c]? =_
 rw[Array.getElem?_setIfInBounds_ne (by omega)]
theorem R.loop [Env] (hr:R ρ σ w) {l:Nat} {st:LoopState} {pend:Option Code} {fn:FuncId} {t:bK V} {size d:Nat} {ps:List Tmp} {ak9 bo:Code} (hb:σ.heap.get l=some (.loop st pend fn t size ps ak9 bo d)) {k:Loc} (hl:ρ l=some k):
  ∃fn' t' ld,w.heap[k.c]? =some (.loop {state:=st,pending:=pend,fn:=fn',tmps:=t',params:=⟨ps⟩,assign:=ak9,body:=bo,defers:=ld.c})∧gw ρ t t'∧size=t'.size∧ρ d=some ld:=by
 obtain⟨k',eV,je⟩:=hr.di _ _ hb
 rw[hl] at eV;cases eV
 cases je with
 | loop h ht hs hd=>exact⟨_,_,_,h,ht,hs,hd⟩
theorem lq {c:Nat} {r:Loop} (h:w.heap[c]? =some (.loop r)):(Instr.getLoop c).run P w=.ok r w:=by
 simp [Instr.getLoop,getObj,Sem.run,h]
theorem rb [Env] {c:Nat} {r r':Loop} (h:w.heap[c]? =some (.loop r)):(setObj c (.loop r')).run P w=.ok () {w with heap:=w.heap.setIfInBounds c (.loop r')}:=
 jE h (by intros;simp)
theorem Az [Env] (hr:R ρ σ w) {ids:Nat→Prop} {l:Nat} {kb:bU} (hb:σ.heap.get l=some kb) (pD:kb.j9=true) {k:Loc} (hl:ρ l=some k) {st:LoopState} {pend:Option Code} {fn fn':FuncId} {t:bK V} {t':Array Value} {size d:Nat} {ps:List Tmp} {ak9 bo:Code}
  {ld:Loc} (ht:gw ρ t t') (hs:size=t'.size) (hd:ρ d=some ld):
  aW ids ρ σ w ρ (σ.set l (.loop st pend fn t size ps ak9 bo d)) {w with heap:=w.heap.setIfInBounds k.c (.loop {state:=st,pending:=pend,fn:=fn',tmps:=t',params:=⟨ps⟩,assign:=ak9,body:=bo,defers:=ld.c})}:=by
 refine XW hr hb pD hl (.loop (fn':=fn') ?_ ht hs hd)
 show(w.heap.setIfInBounds k.c _)[k.c]? =_
 simp [hr.valid _ _ hl]
theorem CR [Env]:∀(ps:List Tmp) {vs:List V} {vs':List Value} {t pR:bK V} {t':Array Value} {size:Nat},gw ρ t t'→size=t'.size→ay ρ vs vs'→l6 t size ps vs=some pR→
  ps.length=vs'.length∧gw ρ pR ((ps.zip vs').foldl (fun(tmps:Array Value) (q:Tmp×Value)=>tmps.setIfInBounds q.1 q.2) t')∧size=((ps.zip vs').foldl (fun(tmps:Array Value) (q:Tmp×Value)=>tmps.setIfInBounds q.1 q.2) t').size:=by
 intro ps
 induction ps with
 | nil=>
  intro vs vs' t pR t' size ht hs hv h
  cases vs with
  | nil=>cases hv;cases h;exact⟨rfl,ht,hs⟩
  | cons v vs=>cases h
 | cons q ps ih=>
  intro vs vs' t pR t' size ht hs hv h
  cases vs with
  | nil=>cases h
  | cons v vs=>
   cases hv with
   | cons hv gA=>
    rename_i x l'
    unfold l6 at h
    split at h
    ·rename_i bE
     obtain⟨h1,h2,h3⟩:=ih (ht.put (by rw[←hs];exact bE) hv) (by simpa using hs) gA h
     exact⟨by simp [h1],h2,h3⟩
    ·cases h
theorem G8 [Env] (hg:Good P Rn) {l:Nat} {vs:List V} {σ:St} {p:Out×St→Prop} (h:(qz Rn l vs σ (σ.heap.get l)).ar p) {ρ:aA} {w:World} {k:Loc} {vs':List Value}
  (hr:R ρ σ w) (hl:ρ l=some k) (hv:ay ρ vs vs'):
  ∃g tmps ak9 bo,(Instr.yield k.c ⟨vs'⟩).run P w=.ok (.round k.c g tmps ak9 bo) w∧RoundIn Fence.wide 0 P k.c g tmps ak9 bo w (cu p ρ σ w):=by
 unfold qz at h
 split at h
 ·rename_i st pend fn t size ps ak9 bo d hb
  obtain⟨fn',t',ld,hw,ht,hs,hd⟩:=hr.loop hb hl
  unfold vi at h
  split at h
  ·rename_i pR K4
   obtain⟨hlen,aO,bk⟩:=CR ps ht hs hv K4
   refine⟨fn',(ps.zip vs').foldl (fun(tmps:Array Value) (q:Tmp×Value)=>tmps.setIfInBounds q.1 q.2) t',ak9,bo,?_,?_⟩
   ·have afz:¬((⟨vs'⟩:Array Value).size≠(⟨ps⟩:Array Tmp).size):=by simp [hlen]
    have hz:((⟨ps⟩:Array Tmp).zip ⟨vs'⟩)=⟨ps.zip vs'⟩:=by simp
    simp only[Instr.yield,Sem.run_bind,lq hw,Result.andThen_ok,if_neg afz,hz,Sem.run_pure]
    simp
   ·refine roundIn_of_wpIn trivial ?_
    have bq:fK ρ (some l) (Fence.wide.inRound k.c):=⟨k,hl,rfl⟩
    refine wpIn_mono (hg.code (bw.ar.bind h) hr (a':={tmps:=_,defers:=[]}) ⟨aO,bk,.nil⟩ bq) fun e aT aL ee=>?_
    obtain⟨x,a,aI,bz,h1,rfl,yZ,lr⟩:=ee
    cases x with
    | normal=>
     have ew:(qy Rn l fn bo a aI (aI.heap.get l)).ar p:=h1
     unfold qy at ew
     split at ew
     ·rename_i XX acg aks akt Tx Ty Tz aku C1
      split at ew
      ·have eo:=lr.le _ _ hl
       obtain⟨NW,ach,aci,nR,C2,acj,ack⟩:=lr.r.loop C1 eo
       have iD:=Az (ids:=m9) (fn:=acg) (fn':=NW) (st:=.busy) (pend:=XX) (ps:=Tx) (ak9:=Ty) (bo:=Tz) lr.r C1 rfl eo C2 acj ack
       refine⟨{aL with heap:=aL.heap.setIfInBounds k.c (.loop {state:=.busy,pending:=XX,fn:=NW,tmps:=ach,params:=⟨Tx⟩,assign:=Ty,body:=Tz,defers:=aci.c})},?_,?_⟩
       ·simp only[Instr.beginRound,Sem.run_bind,lq nR,Result.andThen_ok,rb nR,Sem.run_pure]
       ·refine wpIn_mono (hg.code (bw.ar.bind ew) iD.r yZ (bq.mono lr.le)) fun e aY fr ee=>?_
        obtain⟨x,a,bL,bm,h2,rfl,Tm,cc⟩:=ee
        have pG:(sV l x bL (bL.heap.get l)).ar p:=h2
        unfold sV at pG
        split at pG
        ·rename_i K5 PW acm pR afA acn aco acp afB wP
         have qH:=cc.le _ _ eo
         obtain⟨XY,akj,akk,TA,K4,acq,acr⟩:=cc.r.loop wP qH
         have fin:∀(j:Option Code) (st:LoopState) (b:Bool),st=(if j.isNone then .ready else .done)→b=j.isNone→p (.val (.bool b),bL.set l (.loop st j acm pR afA acn aco acp afB))→
           ∃v w',(Instr.endRound k.c j).run P fr=.ok v w'∧cu p ρ σ w (.returned v) w':=by
          intro j st b aF hbj hp
          refine⟨.bool b,_,?_,.bool b,_,bm,.bool b,hp,rfl,.bool b,(lr.trans iD).trans (cc.trans (Az (fn':=XY) cc.r wP rfl qH K4 acq acr))⟩
          simp only[Instr.endRound,Sem.run_bind,lq TA,Result.andThen_ok,rb TA,Sem.run_pure,hbj,aF]
         cases x with
         | normal=>exact fin none _ _ rfl rfl pG
         | exit i=>exact fin (some (.exit i)) _ _ rfl rfl pG
         | goto i=>exact fin (some (.goto i)) _ _ rfl rfl pG
         | ret=>exact fin (some .ret) _ _ rfl rfl pG
        ·exact pG.elim
      ·exact ew.elim
     ·exact ew.elim
    | exit i=>exact bw.ar.jr h1
    | goto i=>exact bw.ar.jr h1
    | ret=>exact bw.ar.jr h1
  ·exact h.elim
 ·exact h.elim
theorem ze [Env] (hg:Good P Rn) (hr:R ρ σ w) {a:Act} {a':Go.Act} (ha:bD ρ a a') (bq:fK ρ ro F) {fn:FuncId} {f:Operand} {ps:Array Tmp} {ak9 bo:Code} {p:Out×St→Prop}
  (h:((iS P fn (.rangeFunc f ps ak9 bo)).f Rn ro a σ).ar p):(Code.rangeFunc f ps ak9 bo).wpIn F 0 P (bP p ρ σ w) a' w:=by
 have h':(oW Rn ro fn a σ ps.toList ak9 bo (a.eval f)).ar p:=h
 unfold oW at h'
 split at h'
 ·rename_i g first captured hf
  have vI:=ha.eval f hf
  generalize bf:a'.eval f=f' at vI
  cases vI with
  | func yY hx hy=>
   rename_i fn' x' y'
   have PX:fn'=.func g:=by cases yY with | same _=>rfl
   subst PX
   unfold Go.Ev.rangeCall at h'
   split at h'
   ·rename_i d aI aT j0
    have mk:∀fm,∃(bz:aA) (aL:World) (mark:List Deferred) (ld:Loc),aW m9 ρ σ w bz aI aL∧bz d=some ld∧bD bz aT {a' with defers:=mark++a'.defers}∧
      (Instr.enterLoop fm a'.tmps ps ak9 bo F.round).run P w=
       .ok (aL.heap.size,mark) {aL with heap:=aL.heap.push (.loop {state:=.ready,pending:=none,fn:=fm,tmps:=a'.tmps,params:=ps,assign:=ak9,body:=bo,defers:=ld.c})}:=by
     intro fm
     unfold vg at j0
     split at j0
     ·rename_i akv
      obtain⟨t,s,ds⟩:=a
      have hF:F=Fence.wide:=bq
      subst hF
      simp only[Option.some.injEq,Prod.mk.injEq] at j0
      obtain⟨rfl,rfl,rfl⟩:=j0
      have cg:ρ σ.next=none:=hr.fresh _ (Nat.le_refl _)
      have aF:aW (fun b=>b=σ.next) ρ σ w (jb ρ σ.next ⟨w.heap.size,0,0⟩) (σ.new σ.next .deferred) {w with heap:=w.heap.push (.deferred (some []))}:=
       aW.alloc hr cg rfl rfl rfl rfl (.deferred (by show(w.heap.push _)[w.heap.size]? =_;simp))
      refine⟨_,_,[{target:=.collected w.heap.size,args:=#[]}],⟨w.heap.size,0,0⟩,aF.xW,fV _ _ _,⟨ha.tmps.mono aF.le,ha.size,.cons (.mark (l:=⟨w.heap.size,0,0⟩) (fV _ _ _)) (ha.defers.mono aF.le)⟩,?_⟩
      simp [Instr.enterLoop,Fence.wide]
      rfl
     ·rename_i cx
      obtain⟨kb,sY,rfl⟩:=bq
      split at j0
      ·rename_i st pend akl XZ KN akm akn ako akw acs
       cases j0
       obtain⟨aiX,akp,ld,acu,_,_,acv⟩:=hr.loop acs sY
       refine⟨ρ,w,[],ld,aW.refl hr,acv,ha,?_⟩
       simp [Instr.enterLoop,lq acu]
      ·cases j0
    refine wpIn_rangeFunc fun fm _=>?_
    obtain⟨bz,aL,mark,ld,lr,HJ,yZ,X0⟩:=mk fm
    have cg:bz aI.next=none:=lr.r.fresh _ (Nat.le_refl _)
    have hts:aT.tmps=a.tmps∧aT.size=a.size:=by
     unfold vg at j0
     split at j0
     ·obtain⟨t,s,ds⟩:=a
      simp only[Option.some.injEq,Prod.mk.injEq] at j0
      obtain⟨_,_,rfl⟩:=j0
      exact⟨rfl,rfl⟩
     ·split at j0
      ·cases j0;exact⟨rfl,rfl⟩
      ·cases j0
    have iD:aW (fun b=>b=aI.next) bz aI aL (jb bz aI.next ⟨aL.heap.size,0,0⟩) (aI.new aI.next (.loop .ready none fn a.tmps a.size ps.toList ak9 bo d))
      {aL with heap:=aL.heap.push (.loop {state:=.ready,pending:=none,fn:=fm,tmps:=a'.tmps,params:=ps,assign:=ak9,body:=bo,defers:=ld.c})}:=by
     refine aW.alloc lr.r cg rfl rfl rfl rfl (.loop (fn':=fm) (t':=a'.tmps) (ld:=ld) (by show(aL.heap.push _)[aL.heap.size]? =_;simp) ?_ ha.size (hJ bz _ cg _ _ HJ))
     exact ha.tmps.mono (lr.le.trans (hJ bz _ cg))
    have AA:=lr.trans iD.xW
    have hyl:jb bz aI.next ⟨aL.heap.size,0,0⟩ aI.next=some ⟨aL.heap.size,0,0⟩:=fV _ _ _
    have nV:ay (jb bz aI.next ⟨aL.heap.size,0,0⟩) (app first (app [.func (.yield aI.next) [] []] captured)) (x'++([.func (.yield aL.heap.size) #[] #[]]++y')):=by
     rw[fi,fi]
     exact(hx.mono AA.le).append ((ay.cons (.func (.yield (k:=⟨aL.heap.size,0,0⟩) hyl) .nil .nil) .nil).append (hy.mono AA.le))
    obtain⟨yX,eD⟩:=hg.call (bw.ar.bind h') iD.r nV
    let W2:World:={aL with heap:=aL.heap.push (.loop {state:=.ready,pending:=none,fn:=fm,tmps:=a'.tmps,params:=ps,assign:=ak9,body:=bo,defers:=ld.c})}
    refine⟨aL.heap.size,mark,W2,{target:=.fn (.func g) ⟨y'⟩,args:=⟨x'⟩++#[.func (.yield aL.heap.size) #[] #[]]},W2,g,⟨x'++([.func (.yield aL.heap.size) #[] #[]]++y')⟩,W2,X0,?_,fun f' _=>bq.fn f',?_,bq.depth 0,bq.calls ?_⟩
    ·have e0:(#[Operand.const (.func (.yield aL.heap.size) #[] #[])]:Array Operand).map a'.eval=#[.func (.yield aL.heap.size) #[] #[]]:=by simp [Go.Act.eval]
     simp only[resolve]
     rw[e0,bf]
     simp [Deferred.ofValue]
    ·have e1:((⟨x'⟩++#[.func (.yield aL.heap.size) #[] #[]]:Array Value)++⟨y'⟩)=⟨x'++([.func (.yield aL.heap.size) #[] #[]]++y')⟩:=by simp
     simp only[invoke]
     rw[e1]
     exact yX
    ·refine eD.mono fun e Ax hv=>?_
     obtain⟨v,jG,nW,v',hp,rfl,_,cc⟩:=hv
     have pN:(sU Rn ro fn aT aI.next jG (jG.heap.get aI.next)).ar p:=hp
     unfold sU at pN
     split at pN
     ·exact pN.elim
     ·rename_i st jump acw akx aky TB TC TD akz Tf TE
      have TF:=cc.le _ _ hyl
      obtain⟨NX,acx,acy,TG,acz,acA,acB⟩:=cc.r.loop TE TF
      have vL:=Az (ids:=m9) (fn:=acw) (fn':=NX) (st:=.exhausted) (pend:=jump) (ps:=TB) (ak9:=TC) (bo:=TD) cc.r TE rfl TF acz acA acB
      refine⟨jump,{Ax with heap:=Ax.heap.setIfInBounds aL.heap.size (.loop {state:=.exhausted,pending:=jump,fn:=NX,tmps:=acx,params:=⟨TB⟩,assign:=TC,body:=TD,defers:=acy.c})},?_,?_⟩
      ·have afC:(st==LoopState.busy)=false:=by
        cases st<;>first
         | rfl
         | exact Tf.elim
         | exact(Tf rfl).elim
         | exact(Tf _ _ _ _ _ _ _ _ rfl).elim
       simp only[Instr.endLoop,Sem.run_bind,lq TG,Result.andThen_ok,afC,Bool.false_eq_true,if_false,rb TG,Sem.run_pure]
      ·have vL:=vL.trans (aW.kill (ids:=m9) vL.r aI.next)
       have cH:=AA.trans (cc.trans vL)
       have haf:bD nW aT {a' with defers:=mark++a'.defers}:=yZ.mono ((hJ bz _ cg).trans cc.le)
       unfold B0 at pN
       cases jump with
       | none=>exact⟨.normal,_,_,_,pN,rfl,haf,cH⟩
       | some c=>exact wpIn_mono (hg.code pN vL.r haf (bq.mono cH.le)) fun _ _ _ hq=>bP.trans cH hq
     ·exact pN.elim
   ·exact h'.elim
 ·exact h'.elim
end
end Go.Ev
end
section
namespace Go.Ev
open Go
section
variable {P:Program} {ρ:aA} {σ:St} {w:World} {Rn:Task→St→Run} {F:Fence} {ro:Option Nat}
theorem vM [Env] {q p:Out×St→Prop} {K:Go.Act→World→Prop} {e:Exit} {a':Go.Act} {w':World} (h:bP q ρ σ w e a' w')
  (hn:∀a σ' ρ',q (.exit .normal a,σ')→bD ρ' a a'→aW m9 ρ σ w ρ' σ' w'→K a' w')
  (he:∀x a σ',x≠.normal→q (.exit x a,σ')→p (.exit x a,σ')):Exit.then K (bP p ρ σ w) e a' w':=by
 obtain⟨x,a,σ',ρ',h1,rfl,h3,h4⟩:=h
 cases x with
 | normal=>exact hn _ _ _ h1 h3 h4
 | exit i=>exact⟨_,_,_,_,he _ _ _ (by simp) h1,rfl,h3,h4⟩
 | goto i=>exact⟨_,_,_,_,he _ _ _ (by simp) h1,rfl,h3,h4⟩
 | ret=>exact⟨_,_,_,_,he _ _ _ (by simp) h1,rfl,h3,h4⟩
theorem pS {x:Code} {Q:Exit→Go.Act→World→Prop} {a:Go.Act} {w:World}
  (h:x.wpIn F 0 P (Exit.then (fun a' w'=>kj F P x Q a' w') Q) a w):(Code.loop x).wpIn F 0 P Q a w∧kj F P x Q a w:=by
 have key:∀(b:Frame) (k:List Go.Item) (cs:List Frame),b.roundOf=F.round→F.fn b.fn→F.room (cs.length+1+0)→
   ∃e a' w',Q e a' w'∧ArrivesIn (Machine.fenced P F) P (lone (b.atR a (.code x::.inLoop x::k)) cs w) b k cs e a' w':=by
  intro b k cs iy hb hr
  obtain⟨e,aT,aL,hq,ie⟩:=h b (.inLoop x::k) cs iy hb hr
  cases e with
  | normal=>
   obtain⟨PY,aY,fr,K6,AB⟩:=hq b k cs iy hb hr
   exact⟨PY,aY,fr,K6,.of_steps ie AB⟩
  | exit id=>exact⟨_,aT,aL,hq,.pass (x:=.inLoop x) rfl (fun _ _=>.inl (by simp)) ie⟩
  | goto l=>exact⟨_,aT,aL,hq,.pass (x:=.inLoop x) rfl (fun _ _=>.inl (by simp)) ie⟩
  | ret=>exact⟨_,aT,aL,hq,.pass (x:=.inLoop x) rfl (fun _ _=>.inl (by simp)) ie⟩
  | panic ch=>exact⟨_,aT,aL,hq,.pass (x:=.inLoop x) rfl (fun _ _=>.inl (by simp)) ie⟩
  | outgrown=>exact⟨_,aT,aL,hq,.pass (x:=.inLoop x) rfl (fun _ _=>.inl (by simp)) ie⟩
 constructor
 ·intro b k cs iy hb hr
  obtain⟨e,a',w',hq,ie⟩:=key b k cs iy hb hr
  exact⟨e,a',w',hq,.of_steps (.one (fenced_calm hb hr rfl) stepR_loop) ie⟩
 ·intro b k cs iy hb hr
  obtain⟨e,a',w',hq,ie⟩:=key b k cs iy hb hr
  exact⟨e,a',w',hq,.of_steps (.one (fenced_calm hb hr rfl) stepR_inLoop) ie⟩
theorem G9 {b:Frame} {a:Go.Act} {k:List Go.Item} {cs:List Frame} {c:Code}:Go.step P (lone (b.atR a (.code (.scope c)::k)) cs w)=.next (lone (b.atR a (.code c::.inScope c::k)) cs w):=
 step_lone_go (by simp [stepG,stepG.exec,Frame.atR])
theorem CS {b:Frame} {a:Go.Act} {k:List Go.Item} {cs:List Frame} {c:Code}:Go.step P (lone (b.atR a (.inScope c::k)) cs w)=.next (lone (b.atR a k) cs w):=
 step_lone_go (by simp [stepG,stepG.exec,Frame.atR])
theorem uK [Env] {x:Code} {Q:Exit→Go.Act→World→Prop} {a:Go.Act} {w:World} (h:me F P x x Q a w):(Code.scope x).wpIn F 0 P Q a w:=by
 intro b k cs iy hb hr
 obtain⟨e,a',w',hq,ie⟩:=h b k cs iy hb hr
 exact⟨e,a',w',hq,.of_steps (.one (fenced_calm hb hr rfl) G9) ie⟩
theorem zg [Env] {x cur:Code} {Q:Exit→Go.Act→World→Prop} {a:Go.Act} {w:World}
  (h:cur.wpIn F 0 P (fun e a' w'=>match e with
   | .goto l=>(∀rest,findLabel x l=some rest→me F P x rest Q a' w')∧(findLabel x l=none→Q (.goto l) a' w')
   | e=>Q e a' w') a w):me F P x cur Q a w:=by
 intro b k cs iy hb hr
 obtain⟨e,aT,aL,hq,ie⟩:=h b (.inScope x::k) cs iy hb hr
 cases e with
 | normal=>exact⟨.normal,aT,aL,hq,StepsIn.trans ie (.one (fenced_calm hb hr rfl) CS)⟩
 | exit id=>
  have hx:exitTo id (.inScope x::k)=exitTo id k:=by simp [exitTo]
  exact⟨.exit id,aT,aL,hq,fun k' hk=>ie.1 k' (by rw[hx];exact hk),fun gB hk=>ie.2 gB (by rw[hx];exact hk)⟩
 | goto l=>
  cases hf:findLabel x l with
  | some rest=>
   have hs:=ie.1 (.code rest::.inScope x::k) (by simp [gotoIn,hf])
   obtain⟨PY,aY,fr,K6,AB⟩:=hq.1 rest hf b k cs iy hb hr
   exact⟨PY,aY,fr,K6,.of_steps hs AB⟩
  | none=>
   have hx:gotoIn l (.inScope x::k)=gotoIn l k:=by simp [gotoIn,hf]
   exact⟨.goto l,aT,aL,hq.2 hf,fun k' hk=>ie.1 k' (by rw[hx];exact hk),fun gB hk=>ie.2 gB (by rw[hx];exact hk)⟩
 | ret=>exact⟨_,aT,aL,hq,ie⟩
 | panic ch=>exact⟨_,aT,aL,hq,ie⟩
 | outgrown=>exact⟨_,aT,aL,hq,ie⟩
theorem LeavesInM.mono {n:Nat} {fn:Func} {tmps:Array Value} {Q Q':Ending→World→Prop}:∀ {ds:List Deferred} {u:FrameMode} {w:World},LeavesInM F n P fn tmps Q ds u w→(∀e w,Q e w→Q' e w)→LeavesInM F n P fn tmps Q' ds u w:=by
 intro ds
 induction ds with
 | nil=>
  intro u w h hq
  cases u with
  | run=>exact h.elim
  | returning=>obtain⟨v,h1,h2⟩:=h;exact⟨v,h1,hq _ _ h2⟩
  | panicking c=>exact hq _ _ h
 | cons d ds ih=>
  intro u w h hq
  obtain⟨h1,h2⟩:=h
  refine⟨h1,h2.imp ?_ ?_⟩
  ·rintro⟨r,w',a,b,c⟩;exact⟨r,w',a,b,ih c hq⟩
  ·rintro⟨a,fv,cap,f,args,b,c,d,e⟩
   refine⟨a,fv,cap,f,args,b,c,d,e.mono fun e u' w' h=>?_⟩
   cases e with
   | returned v=>exact ih h hq
   | panicked c=>exact ih h hq
   | outgrown=>exact hq _ _ h
theorem re [Env] (hg:Good P Rn) (jV:P.follows .mixedOrders=true) {fn:FuncId}:∀(c:Code) {a:Act} {σ:St} {p:Out×St→Prop},((iS P fn c).f Rn ro a σ).ar p→
  ∀ {ρ:aA} {w:World} {a':Go.Act},R ρ σ w→bD ρ a a'→fK ρ ro F→c.wpIn F 0 P (bP p ρ σ w) a' w∧∀x,c=.loop x→kj F P x (bP p ρ σ w) a' w:=by
 intro c
 induction c with
 | skip=>
  intro a σ p h ρ w a' hr ha bq
  exact⟨wpIn_skip ⟨.normal,_,_,_,h,rfl,ha,aW.refl hr⟩,fun _ e=>by cases e⟩
 | label l=>
  intro a σ p h ρ w a' hr ha bq
  exact⟨wpIn_label ⟨.normal,_,_,_,h,rfl,ha,aW.refl hr⟩,fun _ e=>by cases e⟩
 | exit i=>
  intro a σ p h ρ w a' hr ha bq
  exact⟨wpIn_exit ⟨.exit i,_,_,_,h,rfl,ha,aW.refl hr⟩,fun _ e=>by cases e⟩
 | goto l=>
  intro a σ p h ρ w a' hr ha bq
  exact⟨wpIn_goto ⟨.goto l,_,_,_,h,rfl,ha,aW.refl hr⟩,fun _ e=>by cases e⟩
 | ret=>
  intro a σ p h ρ w a' hr ha bq
  exact⟨wpIn_ret ⟨.ret,_,_,_,h,rfl,ha,aW.refl hr⟩,fun _ e=>by cases e⟩
 | seq x y ihx X1=>
  intro a σ p h ρ w a' hr ha bq
  refine⟨wpIn_seq (wpIn_mono (ihx (bw.ar.bind h) hr ha bq).1 fun e aT aL ee=>?_),fun _ e=>by cases e⟩
  refine vM ee (fun a σ' ρ' hq X2 aF=>?_) (fun x a σ' hx hq=>?_)
  ·exact wpIn_mono (X1 hq aF.r X2 (bq.mono aF.le)).1 fun _ _ _ hp=>bP.trans aF hp
  ·cases x<;>first | exact absurd rfl hx | exact hq
 | cond x y z X1 ihz=>
  intro a σ p h ρ w a' hr ha bq
  refine⟨?_,fun _ e=>by cases e⟩
  have h':(CX ((iS P fn y).f Rn ro) ((iS P fn z).f Rn ro) a σ (a.eval x)).ar p:=h
  unfold CX at h'
  split at h'
  ·rename_i hx;exact wpIn_cond_true ((ha.eval x hx).rW) (X1 h' hr ha bq).1
  ·rename_i hx;exact wpIn_cond_false ((ha.eval x hx).rW) (ihz h' hr ha bq).1
  ·exact h'.elim
 | block id x ih=>
  intro a σ p h ρ w a' hr ha bq
  refine⟨wpIn_block (wpIn_mono (ih (bw.ar.bind h) hr ha bq).1 fun e aT aL ee=>?_),fun _ e=>by cases e⟩
  obtain⟨e,b,σ',ρ',h1,rfl,h3,h4⟩:=ee
  cases e with
  | normal=>exact⟨.normal,_,_,_,h1,rfl,h3,h4⟩
  | exit i=>
   have ew:p (.exit (if i=id then .normal else .exit i) b,σ'):=h1
   by_cases hi:i=id
   ·simp only[rX,Exit.inBlock,hi,if_true]
    rw[if_pos hi] at ew
    exact⟨.normal,_,_,_,ew,rfl,h3,h4⟩
   ·simp only[rX,Exit.inBlock,hi,if_false]
    rw[if_neg hi] at ew
    exact⟨.exit i,_,_,_,ew,rfl,h3,h4⟩
  | goto l=>exact⟨.goto l,_,_,_,h1,rfl,h3,h4⟩
  | ret=>exact⟨.ret,_,_,_,h1,rfl,h3,h4⟩
 | loop x ih=>
  intro a σ p h ρ w a' hr ha bq
  refine⟨hg.code h hr ha bq,fun y e=>?_⟩
  cases e
  exact hg.loop h hr ha bq
 | region id ops draw=>
  intro a σ p h ρ w a' hr ha bq
  refine⟨?_,fun _ e=>by cases e⟩
  cases draw with
  | false=>exact Eb hg hr ha bq h
  | true=>exact G7 hg jV hr ha bq h
 | rangeFunc f ps ak9 bo _ _=>
  intro a σ p h ρ w a' hr ha bq
  exact⟨ze hg hr ha bq h,fun _ e=>by cases e⟩
 | scope x ih=>
  intro a σ p h ρ w a' hr ha bq
  exact⟨uK (hg.inScope h hr ha bq),fun _ e=>by cases e⟩
 | refuse u=>
  intro a σ p h ρ w a' hr ha bq
  exact h.elim
theorem Ha [Env] (hg:Good P Rn) (jV:P.follows .mixedOrders=true) {fn:FuncId} {x:Code} {a:Act} {σ:St} {p:Out×St→Prop} (h:(((iS P fn x).f Rn ro a σ).bind (Pq fun a σ=>Rn (.code ro fn (.loop x) a) σ)).ar p)
  {ρ:aA} {w:World} {a':Go.Act} (hr:R ρ σ w) (ha:bD ρ a a') (bq:fK ρ ro F):(Code.loop x).wpIn F 0 P (bP p ρ σ w) a' w∧kj F P x (bP p ρ σ w) a' w:=by
 refine pS (wpIn_mono (re hg jV x (bw.ar.bind h) hr ha bq).1 fun e aT aL ee=>?_)
 refine vM ee (fun a σ' ρ' hq X2 aF=>?_) (fun x a σ' hx hq=>?_)
 ·exact(hg.loop hq aF.r X2 (bq.mono aF.le)).mono fun _ _ _ hp=>bP.trans aF hp
 ·cases x<;>first | exact absurd rfl hx | exact hq
theorem sd [Env] (hg:Good P Rn) (jV:P.follows .mixedOrders=true) {fn:FuncId} (c:Code) {a:Act} {σ:St} {p:Out×St→Prop} (h:(xT P Rn ro fn a σ c).ar p) {ρ:aA} {w:World} {a':Go.Act} (hr:R ρ σ w) (ha:bD ρ a a') (bq:fK ρ ro F):
  c.wpIn F 0 P (bP p ρ σ w) a' w∧∀x,c=.loop x→kj F P x (bP p ρ σ w) a' w:=by
 by_cases hl:∃x,c=.loop x
 ·obtain⟨x,rfl⟩:=hl
  obtain⟨h1,h2⟩:=Ha hg jV h hr ha bq
  exact⟨h1,fun y e=>by cases e;exact h2⟩
 ·refine re (fn:=fn) hg jV c (a:=a) ?_ hr ha bq
  cases c<;>first
   | exact absurd ⟨_,rfl⟩ hl
   | exact h
end
end Go.Ev
end
section
namespace Go.Ev
open Go
section
variable {P:Program} {ρ:aA} {σ:St} {w:World} {Rn:Task→St→Run}
theorem vN [Env] {vs:List V} {vs':List Value} (h:ay ρ vs vs') (n:Nat):bD ρ (my n vs) {tmps:=⟨vs'⟩++Array.replicate (n-(⟨vs'⟩:Array Value).size) undef,defers:=[]}:=by
 have hl:=h.length
 refine⟨fun i v hv=>?_,?_,.nil⟩
 ·have m8:(bK.KB vs (bK.blank n) 0).get i=some v:=hv
  rw[bK.Po] at m8
  have hi:vs[i]? =some v:=by
   split at m8
   ·simpa using m8
   ·rw[bK.Na] at m8;cases m8
  obtain⟨x,hx,aO⟩:=h.get i hi
  refine⟨x,?_,aO⟩
  have bE:i<vs'.length:=(List.getElem?_eq_some_iff.1 hx).1
  show((⟨vs'⟩:Array Value)++_)[i]? =_
  rw[Array.getElem?_append_left (by simpa using bE)]
  simpa using hx
 ·show max n (len vs)=_
  rw[aP]
  simp
  omega
theorem Ez [Env] (hr:R ρ σ w) {a:Act} {a':Go.Act} (ha:bD ρ a a'):∀(rs:List ResultVar) {l:List V},fc P a σ rs=some l→
  ∃l':List Value,(rs.mapM fun r=>(match r with
   | .tmp t=>pure (a'.tmps.getD t undef)
   | .cell x t=>do loadVar t (←asAddr (a'.tmps.getD x undef)):Sem Value)).run P w=.ok l' w∧ay ρ l l':=by
 intro rs
 induction rs with
 | nil=>intro l h;cases h;exact⟨[],rfl,.nil⟩
 | cons r rs ih=>
  intro l h
  have fe:∀ {t:Tmp} {v:V},a.tmps.get t=some v→au ρ v (a'.tmps.getD t undef):=by
   intro t v hv
   obtain⟨x,hx,aO⟩:=ha.tmps t v hv
   rw[Array.getD_eq_getD_getElem?,hx]
   exact aO
  cases r with
  | tmp t=>
   unfold fc at h
   split at h
   ·rename_i v cw hv hl
    cases h
    obtain⟨l',aE,aO⟩:=ih hl
    refine⟨a'.tmps.getD t undef::l',?_,.cons (fe hv) aO⟩
    rw[List.mapM_cons]
    simp only[Sem.run_bind,Sem.run_pure,Result.andThen_ok,aE]
   ·cases h
  | cell x t=>
   unfold fc at h
   split at h
   ·rename_i v cw hv hl
    rw[Option.map_eq_some_iff] at h
    obtain⟨u,hu,rfl⟩:=h
    obtain⟨l',aE,aO⟩:=ih hl
    obtain⟨u',_,acC,ad,had,yP⟩:=B2 (P:=P) hr (fe hv) hu
    refine⟨u'::l',?_,.cons acC aO⟩
    rw[List.mapM_cons]
    dsimp only
    have hA:(asAddr (.pointer (some ad))).run P w=.ok ad w:=rfl
    rw[had]
    simp only[Sem.run_bind,hA,Result.andThen_ok,Sem.run_pure,yP,aE]
   ·cases h
theorem CT [Env] (hr:R ρ σ w) {a:Act} {a':Go.Act} (ha:bD ρ a a') {fn:Func} {l:List V} (h:fc P a σ fn.results.toList=some l):
  ∃v',(results fn a'.tmps).run P w=.ok v' w∧au ρ (sR l) v':=by
 obtain⟨l',aE,aO⟩:=Ez (P:=P) hr ha _ h
 refine⟨if hh:(⟨l'⟩:Array Value).size=1 then(⟨l'⟩:Array Value)[0] else .tuple ⟨l'⟩,?_,?_⟩
 ·unfold results
  rw[Sem.run_bind,Array.mapM_eq_mapM_toList,Sem.run_map]
  exact congrArg (fun r:Result (List Value)=>((r.andThen fun a w'=>Result.ok a.toArray w').andThen fun a w'=>Sem.run P (pure (if h:a.size=1 then a[0] else Value.tuple a)) w')) aE
 ·cases aO with
  | nil=>exact .tuple .nil
  | cons h1 h2=>cases h2 with
   | nil=>exact h1
   | cons h3 h4=>
    rw[dif_neg (by simp)]
    exact .tuple (.cons h1 (.cons h3 h4))
theorem mQ {f:FuncId} {fn:Func} {c:Code} (hf:P.funcs[f]? =some fn) (hb:fn.body=some c) (hn:(fn.name== "runtime.NumGoroutine")=false) (args:Array Value):(callFunc f args).run P w=.ok (.enter f args) w:=by
 have yW:(program).run P w=.ok P w:=rfl
 simp only[callFunc,Sem.run_bind,yW,Result.andThen_ok,hf,hn,Bool.false_eq_true,if_false,hb,Option.isNone_some,Sem.run_pure]
theorem se [Env] {f:FuncId} {fn:Func} {args:List V} {K:Out×St→Run} {p:Out×St→Prop} (h:(pB Rn f fn args σ K fn.body).ar p):
  ∃c,fn.body=some c∧(fn.name== "runtime.NumGoroutine")=false∧(Rn (.code none f c (my fn.ntmps args)) σ).ar fun x=>(K x).ar p:=by
 unfold pB at h
 split at h
 ·rename_i c hb
  split at h
  ·exact h.elim
  ·rename_i hn
   exact⟨c,hb,hn,h.bind⟩
 ·exact h.elim
theorem sf [Env] {a:Act} {a':Go.Act} (ha:bD ρ a a') {r:List (Option (Fn×List V)×Nat×List V)} {r':List Deferred} (h:l8 ρ r r'):bD ρ (oX a r) {a' with defers:=r'}:=by
 obtain⟨t,s,d⟩:=a
 exact⟨ha.tmps,ha.size,h⟩
theorem Cf [Env] (jV:P.follows .mixedOrders=true) (hg:Good P Rn):Good P (step P Rn):=by
 constructor
 case code=>
  intro ro fn c a σ p h ρ w a' F hr ha bq
  exact(sd hg jV c h hr ha bq).1
 case loop=>
  intro ro fn x a σ p h ρ w a' F hr ha bq
  exact(sd hg jV (.loop x) h hr ha bq).2 x rfl
 case inScope=>
  intro ro fn x cur a σ p h ρ w a' F hr ha bq
  refine zg (wpIn_mono (re hg jV cur (bw.ar.bind h) hr ha bq).1 fun e aT aL ee=>?_)
  obtain⟨e,b,σ',ρ',h1,rfl,h3,h4⟩:=ee
  cases e with
  | normal=>exact⟨.normal,_,_,_,h1,rfl,h3,h4⟩
  | exit i=>exact⟨.exit i,_,_,_,h1,rfl,h3,h4⟩
  | ret=>exact⟨.ret,_,_,_,h1,rfl,h3,h4⟩
  | goto l=>
   have ew:(match findLabel x l with
    | some rest=>Rn (.inScope ro fn x rest b) σ'
    | none=>.ok (.exit (.goto l) b,σ'):Run).ar p:=h1
   refine⟨fun rest hf=>?_,fun hf=>?_⟩
   ·rw[hf] at ew
    exact(hg.inScope ew h4.r h3 (bq.mono h4.le)).mono fun _ _ _ hp=>bP.trans h4 hp
   ·rw[hf] at ew
    exact⟨.goto l,_,_,_,ew,rfl,h3,h4⟩
 case call=>
  intro f vs σ p h ρ w vs' hr hv
  have h':(n7 Rn f vs σ P.funcs[f]?).ar p:=h
  unfold n7 at h'
  split at h'
  ·rename_i fn hf
   obtain⟨c,hb,hn,hc⟩:=se h'
   refine⟨mQ hf hb hn _,callsIn_of_wp_marks hf hb trivial (wpIn_mono (hg.code hc hr (vN hv fn.ntmps) rfl) fun e aT aL ee=>?_)⟩
   obtain⟨e,b,σ',ρ',h1,rfl,h3,h4⟩:=ee
   have fin:(Rn (.leave fn b) σ').ar p→LeavesInM Fence.wide 0 P fn aT.tmps (cu p ρ σ w) aT.defers .returning aL:=by
    intro h
    exact LeavesInM.mono (hg.leave h h4.r h3) fun e w' hv=>cu.trans h4 hv
   cases e with
   | normal=>exact fin h1
   | ret=>exact fin h1
   | exit i=>exact bw.ar.jr h1
   | goto l=>exact bw.ar.jr h1
  ·exact h'.elim
 case deferred=>
  intro f vs σ p h ρ w vs' hr hv
  have h':(oz Rn f vs σ P.funcs[f]?).ar p:=h
  unfold oz at h'
  split at h'
  ·rename_i fn hf
   obtain⟨c,hb,hn,hc⟩:=se h'
   refine⟨mQ hf hb hn _,fun u=>callsDIn_of_wp hf hb trivial (wpIn_mono (hg.code hc hr (vN hv fn.ntmps) rfl) fun e aT aL ee=>?_)⟩
   obtain⟨e,b,σ',ρ',h1,rfl,h3,h4⟩:=ee
   have fin:(qv Rn fn b σ').ar p→aT.defers=[]∧∃v,(results fn aT.tmps).run P aL=.ok v aL∧cu p ρ σ w (.returned v) aL:=by
    intro h
    unfold qv at h
    split at h
    ·rename_i hd
     have sg:=h3.defers
     rw[hd] at sg
     have vA:aT.defers=[]:=by
      generalize aT.defers=l at sg
      cases sg;rfl
     have hl:=hg.leave h h4.r h3
     rw[vA] at hl
     obtain⟨v,aE,hv⟩:=hl
     exact⟨vA,v,aE,cu.trans h4 hv⟩
    ·exact h.elim
   cases e with
   | normal=>exact fin h1
   | ret=>exact fin h1
   | exit i=>exact bw.ar.jr h1
   | goto l=>exact bw.ar.jr h1
  ·exact h'.elim
 case leave=>
  intro fn a σ p h ρ w a' hr ha
  have h':(qx P Rn fn a σ a.defers).ar p:=h
  have sg:=ha.defers
  unfold qx at h'
  split at h'
  ·rename_i hd
   rw[hd] at sg
   have vA:a'.defers=[]:=by
    generalize a'.defers=l at sg
    cases sg;rfl
   rw[vA]
   unfold Ae at h'
   split at h'
   ·rename_i l hl
    obtain⟨v',aE,aO⟩:=CT hr ha hl
    exact⟨v',aE,_,_,ρ,v',h',rfl,aO,aW.refl hr⟩
   ·exact h'.elim
  ·rename_i d ex r hd
   rw[hd] at sg
   generalize y5:a'.defers=l' at sg
   cases sg with
   | cons D4 K7=>
    cases D4 with
    | mark HJ=>
     rename_i r' l
     unfold qw at h'
     split at h'
     ·rename_i hb
      obtain⟨cw,eo,je⟩:=hr.di _ _ hb
      rw[HJ] at eo;cases eo
      cases je with
      | deferred hw=>
       have aF:aW m9 ρ σ w ρ (σ.kill d) {w with heap:=w.heap.setIfInBounds l.c (.deferred none)}:=by
        refine aW.drop hr hb HJ rfl (by simp) (fun c hc=>?_) rfl rfl rfl
        show(w.heap.setIfInBounds l.c _)[c]? =_
        rw[Array.getElem?_setIfInBounds_ne (by omega)]
       refine⟨by simp,.inl ⟨l.c,{w with heap:=w.heap.setIfInBounds l.c (.deferred none)},rfl,?_,?_⟩⟩
       ·have fe:(getObj l.c).run P w=.ok (.deferred (some [])) w:=by simp [getObj,Sem.run,hw]
        simp only[Instr.takeDeferred,Sem.run_bind,fe,Result.andThen_ok,jE hw (by intros;simp),Sem.run_pure]
       ·exact LeavesInM.mono (hg.leave h' aF.r (sf ha K7)) fun e w' hv=>cu.trans aF hv
     ·exact h'.elim
  ·rename_i g captured ex vs r hd
   rw[hd] at sg
   generalize y5:a'.defers=l' at sg
   cases sg with
   | cons D4 K7=>
    cases D4 with
    | call n hf hx hy=>
     rename_i r' f' x' y'
     have NY:f'=.func g:=by cases hf with | same _=>rfl
     subst NY
     obtain⟨yX,eD⟩:=hg.deferred (bw.ar.bind h') hr (vs':=y'++x') (by rw[fi];exact hy.append hx)
     have e1:((⟨y'⟩:Array Value)++⟨x'⟩)=⟨y'++x'⟩:=by simp
     refine⟨by simp,.inr ⟨fun h=>(by cases h),.func g,⟨x'⟩,g,⟨y'++x'⟩,rfl,?_,fun _ _=>trivial,(eD .returning).mono fun e u' w' hv=>?_⟩⟩
     ·simp only[invoke]
      rw[e1];exact yX
     ·obtain⟨rfl,v,σ',ρ',v',hp,rfl,_,aF⟩:=hv
      have pN:(Rn (.leave fn (oX a r)) σ').ar p:=hp
      exact LeavesInM.mono (hg.leave pN aF.r (sf (ha.mono aF.le) (K7.mono aF.le))) fun e w' hv=>cu.trans aF hv
  ·exact h'.elim
 case apply=>
  intro f vs σ p h ρ w f' vs' hr hf hv
  have h':(vh Rn vs σ f).ar p:=h
  unfold vh at h'
  split at h'
  ·rename_i g first captured
   cases hf with
   | func yY hx hy=>
    rename_i fn' x' y'
    have PX:fn'=.func g:=by cases yY with | same _=>rfl
    subst PX
    obtain⟨yX,eD⟩:=hg.call h' hr (vs':=x'++(vs'++y')) (by rw[fi,fi];exact hx.append (hv.append hy))
    refine⟨{target:=.fn (.func g) ⟨y'⟩,args:=⟨x'⟩++⟨vs'⟩},rfl,.inl ⟨g,⟨x'++(vs'++y')⟩,?_,eD⟩⟩
    have e1:((⟨x'⟩++⟨vs'⟩:Array Value)++⟨y'⟩)=⟨x'++(vs'++y')⟩:=by simp
    simp only[invoke]
    rw[e1];exact yX
  ·rename_i l first ex
   cases hf with
   | func yY hx hy=>
    rename_i fn' x' y'
    cases yY with
    | same bS=>exact absurd rfl (bS _)
    | yield hl=>
     rename_i k
     obtain⟨g,tmps,ak9,bo,vO,D8⟩:=hg.round h' hr hl (vs':=x'++vs') (by rw[fi];exact hx.append hv)
     refine⟨{target:=.fn (.yield k.c) ⟨y'⟩,args:=⟨x'⟩++⟨vs'⟩},rfl,.inr ⟨k.c,g,tmps,ak9,bo,?_,D8⟩⟩
     have e1:(⟨x'⟩++⟨vs'⟩:Array Value)=⟨x'++vs'⟩:=by simp
     simp only[invoke]
     rw[e1];exact vO
  ·exact h'.elim
 case round=>
  intro l vs σ p h ρ w k vs' hr hl hv
  exact G8 hg h hr hl hv
end
end Go.Ev
end
