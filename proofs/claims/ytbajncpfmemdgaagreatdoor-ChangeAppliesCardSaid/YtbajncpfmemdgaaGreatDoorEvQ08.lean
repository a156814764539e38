/- Proved: parts of the way: DrawF, Range, Sound, Tasks. -/
import Derived.Test.YtbajncpfmemdgaaGreatDoorEvQ07
import Derived.Test.YtbajncpfmemdgaaGreatDoorEvQ06
set_option linter.unusedVariables false
set_option linter.unusedSimpArgs false
section
namespace Go.Ev
open Go
section
variable {P:Program} {Rn:Task→St→Run} {ro:Option Nat} {p:Out×St→Prop} {W:List Nat} {base:Nat} {listed:Array Bool} {a':Go.Act} {w:World} {o:Oper}
variable {F:Fence} {bS:Ren} {σ₀:St} {fY:World}
theorem Pa [Env] (hg:Good P Rn) {ops:Array Oper} (hp:mT ops.toList W) (hI:Inv P Rn ro F p ops.toList W base bS σ₀ fY listed a' w) {i:Nat} (ho:ops.toList[i]? =some o) (DB:bt o.op=true) (hl:¬cG listed i)
  (hW:∀j,(W.getD i 0).testBit j=true→j<ops.toList.length∧cG listed j) {K:Go.Act→World→Prop} {Q:Exit→Go.Act→World→Prop}
  (hK:∀js fD,Inv P Rn ro F p ops.toList W base bS σ₀ fY (listed.setIfInBounds i true) js fD→K js fD):wpOpIn F 0 P ops Q i K a' w:=by
 obtain⟨D,done,effs,snaps,a,σ,b,aZ,ρ,hB,hA,ie,aH,bl⟩:=hI
 have bI:=iu ho
 have mg:done.testBit i=false:=by
  cases hd:done.testBit i with
  | false=>rfl
  | true=>exact absurd (hA.lS i hd).2 hl
 obtain⟨D1,it,D2,rfl,rfl⟩:=mU hA.lu i bI mg
 have cN:∀x∈D1,cG listed x.i:=by
  obtain⟨kW,ep,h1,h2,h3,_,_⟩:=xE hA.lu
  obtain⟨o',ka,_,_,h5,_⟩:=cU h1
  rw[ho] at ka;cases ka
  exact fun x hx=>(hW _ ((h5 DB).1 _ (h3 x hx))).2
 obtain⟨dn,ba,cc,gN,qk,_⟩:=Ng hp hB hA cN
 obtain⟨o',ka,lR,mf,abW,_⟩:=cU gN.lu
 rw[ho] at ka;cases ka
 obtain⟨aka,jR⟩:=abW DB
 obtain⟨o',ka,mi⟩:=zR gN.holds
 rw[ho] at ka;cases ka
 have me:=yC hp hB (gN.walk (ρ:=ρ)) ho hW
 have W7:=u3 (b:=b) me gN.sz.symm gN.df mi
 have cx:ρ (base+it.i)=none:=hB.jz _ bI hl
 have hi:ops[it.i]? =some o:=by rw[←Array.getElem?_toList];exact ho
 have BH:=gN.DC
 have hrm:=gN.room
 have rA:R ρ cc w:=hB.rel.sub gN.sub gN.DC
 refine qK hg rA cx hB.act ie hi W7 ?_
 rintro O9 nF we abX Pb ⟨O8,⟨_,mh⟩,hf⟩ DE cL
 rw[DB] at mh
 obtain⟨yE,Pc,jC⟩:=Ug (((List.range ops.toList.length).filter fun j=>listed.getD j true&& !dn.testBit j).map fun j=>base+j) (fun c=>aZ.heap.get c) nF
 have cP:∀c,(c∈((List.range ops.toList.length).filter fun j=>listed.getD j true&& !dn.testBit j).map fun j=>base+j)↔∃j,j<ops.toList.length∧cG listed j∧dn.testBit j=false∧c=base+j:=by
  intro c
  simp only[List.mem_map,List.mem_filter,List.mem_range,Bool.and_eq_true,Bool.not_eq_true']
  constructor
  ·rintro⟨j,⟨h1,h2,h3⟩,h4⟩;exact⟨j,h1,h2,h3,h4.symm⟩
  ·rintro⟨j,h1,h2,h3,h4⟩;exact⟨j,⟨h1,h2,h3⟩,h4.symm⟩
 have Pd:∀j,j<ops.toList.length→j≠it.i→dn.testBit j=false→nF.heap.get (base+j)=none:=by
  intro j hj bN hd
  cases hg3:nF.heap.get (base+j) with
  | none=>rfl
  | some k=>
   rcases cL.jL _ _ hg3 with ⟨k',h⟩ | h | h
   ·rw[gN.fresh j hj hd] at h;cases h
   ·omega
   ·exact absurd (by omega) bN
 have cW:∀j,j<ops.toList.length→cG listed j→dn.testBit j=false→yE.heap.get (base+j)=aZ.heap.get (base+j):=fun j h1 h2 h3=>by
  rw[jC,if_pos ((cP _).2 ⟨j,h1,h2,h3,rfl⟩)]
 have DG:∀c k l,(∃j,j<ops.toList.length∧cG listed j∧dn.testBit j=false∧c=base+j)→aZ.heap.get c=some k→ρ c=some l→¬Wr ρ cc l.c:=by
  rintro c k l ⟨j,h1,h2,h3,rfl⟩ hk cS ⟨c',k',l',h4,_,h5,h6⟩
  have:=hB.rel.inj c' _ _ _ _ _ (gN.sub _ _ h4) hk h5 cS h6
  rw[this,gN.fresh j h1 h3] at h4
  cases h4
 have SL:∀c k,nF.heap.get c=some k→yE.heap.get c=some k:=by
  intro c k hc
  rw[jC]
  by_cases hm:c∈((List.range ops.toList.length).filter fun j=>listed.getD j true&& !dn.testBit j).map fun j=>base+j
  ·obtain⟨j,h1,h2,h3,rfl⟩:=(cP c).1 hm
   rw[Pd j h1 (fun e=>hl (e▸h2)) h3] at hc;cases hc
  ·rw[if_neg hm];exact hc
 have hR3:R we yE Pb:=by
  refine⟨fun c k hc=>?_,fun c c' k k' l l' h1 h2 g1 g2 e=>?_,fun c hc=>cL.r.fresh c (by rw[←Pc];exact hc),cL.r.valid,fun q o x hx=>⟨(cL.r.aW q o x hx).1,?_⟩,cL.r.laid⟩
  ·rw[jC] at hc
   by_cases hm:c∈((List.range ops.toList.length).filter fun j=>listed.getD j true&& !dn.testBit j).map fun j=>base+j
   ·rw[if_pos hm] at hc
    obtain⟨l,cS,cT⟩:=hB.rel.di c k hc
    exact⟨l,cL.le _ _ cS,cT.same cL.le (cL.aV _ (hB.rel.valid _ _ cS) (DG c k l ((cP c).1 hm) hc cS))⟩
   ·rw[if_neg hm] at hc;exact cL.r.di c k hc
  ·have SM:∀ {c c':Nat} {k k':b9} {l l':Loc},(∃j,j<ops.toList.length∧cG listed j∧dn.testBit j=false∧c=base+j)→aZ.heap.get c=some k→nF.heap.get c'=some k'→we c=some l→we c'=some l'→l.c=l'.c→False:=by
    intro c c' k k' l l' hm h1 h2 g1 g2 e
    obtain⟨cr,fR,_⟩:=hB.rel.di c k h1
    have:l=cr:=by rw[cL.le _ _ fR] at g1;exact(Option.some.inj g1).symm
    subst this
    have hv:=hB.rel.valid _ _ fR
    exact DG c k l hm h1 fR (e▸cL.wr l'.c (e▸hv) ⟨c',k',l',h2,rfl,g2,rfl⟩)
   rw[jC] at h1 h2
   by_cases m1:c∈((List.range ops.toList.length).filter fun j=>listed.getD j true&& !dn.testBit j).map fun j=>base+j
   ·rw[if_pos m1] at h1
    by_cases m2:c'∈((List.range ops.toList.length).filter fun j=>listed.getD j true&& !dn.testBit j).map fun j=>base+j
    ·rw[if_pos m2] at h2
     obtain⟨cr,fR,_⟩:=hB.rel.di c k h1
     obtain⟨oe,yF,_⟩:=hB.rel.di c' k' h2
     have e1:l=cr:=by rw[cL.le _ _ fR] at g1;exact(Option.some.inj g1).symm
     have e2:l'=oe:=by rw[cL.le _ _ yF] at g2;exact(Option.some.inj g2).symm
     subst e1 e2
     exact hB.rel.inj _ _ _ _ _ _ h1 h2 fR yF e
    ·rw[if_neg m2] at h2
     exact(SM ((cP c).1 m1) h1 h2 g1 g2 e).elim
   ·rw[if_neg m1] at h1
    by_cases m2:c'∈((List.range ops.toList.length).filter fun j=>listed.getD j true&& !dn.testBit j).map fun j=>base+j
    ·rw[if_pos m2] at h2
     exact(SM ((cP c').1 m2) h2 h1 g2 g1 e.symm).elim
    ·rw[if_neg m2] at h2
     exact cL.r.inj _ _ _ _ _ _ h1 h2 g1 g2 e
  ·rintro⟨c',k,l,h1,h2,h3,h4⟩
   rw[jC] at h1
   by_cases m1:c'∈((List.range ops.toList.length).filter fun j=>listed.getD j true&& !dn.testBit j).map fun j=>base+j
   ·rw[if_pos m1] at h1
    obtain⟨cr,fR,_⟩:=hB.rel.di c' k h1
    have e1:l=cr:=by rw[cL.le _ _ fR] at h3;exact(Option.some.inj h3).symm
    subst e1
    subst h4
    rcases cL.iG l.c o x hx with g | g | g
    ·exact(hB.rel.aW _ _ _ g).2 ⟨c',k,l,h1,rfl,fR,rfl⟩
    ·have:=hB.rel.valid _ _ fR;omega
    ·exact DG c' k l ((cP c').1 m1) h1 fR g
   ·rw[if_neg m1] at h1
    exact(cL.r.aW q o x hx).2 ⟨c',k,l,h1,h2,h3,h4⟩
 have Pe:∀c,Wr ρ cc c→Wr ρ aZ c:=fun c ⟨c',k,l,h1,h2,h3,h4⟩=>⟨c',k,l,gN.sub _ _ h1,h2,h3,h4⟩
 have abY:bn (fun c=>c=base+it.i) ρ aZ w we yE Pb:=by
  refine⟨hR3,cL.le,by rw[Pc,←BH];exact cL.next,fun c l hc=>by rw[←BH];exact cL.jz c l hc,cL.size,cL.os,cL.tape,cL.output,fun c hc hn=>cL.aV c hc fun h=>hn (Pe c h),?_,fun c k hc=>?_,fun c o x hx=>(cL.iG c o x hx).imp id (Or.imp id (Pe c))⟩
  ·rintro c hc ⟨c',k,l,h1,h2,h3,h4⟩
   rw[jC] at h1
   by_cases m1:c'∈((List.range ops.toList.length).filter fun j=>listed.getD j true&& !dn.testBit j).map fun j=>base+j
   ·rw[if_pos m1] at h1
    obtain⟨cr,fR,_⟩:=hB.rel.di c' k h1
    have e1:l=cr:=by rw[cL.le _ _ fR] at h3;exact(Option.some.inj h3).symm
    subst e1
    exact⟨c',k,l,h1,rfl,fR,h4⟩
   ·rw[if_neg m1] at h1
    exact Pe c (cL.wr c hc ⟨c',k,l,h1,h2,h3,h4⟩)
  ·rw[jC] at hc
   by_cases m1:c∈((List.range ops.toList.length).filter fun j=>listed.getD j true&& !dn.testBit j).map fun j=>base+j
   ·rw[if_pos m1] at hc;exact .inl ⟨k,hc⟩
   ·rw[if_neg m1] at hc
    rcases cL.jL c k hc with ⟨k',h⟩ | h | h
    ·exact .inl ⟨k',gN.sub _ _ h⟩
    ·exact .inr (.inl (by rw[←BH];exact h))
    ·exact .inr (.inr h)
 have w6:∀ {j},cG (listed.setIfInBounds it.i true) j↔cG listed j∨j=it.i:=cG.set (by omega)
 have u6:∀ {j},(Nat.lor dn (2^it.i)).testBit j=false→dn.testBit j=false∧it.i≠j:=by
  intro j hj
  rw[dD] at hj
  simpa using hj
 have yG:∀ {j},dn.testBit j=false→done.testBit j=false:=by
  intro j hj
  cases hd:done.testBit j with
  | false=>rfl
  | true=>rw[gN.mono.1 j hd] at hj;cases hj
 refine hK abX Pb ⟨D2,Nat.lor dn (2^it.i),it.i::effs,nF::snaps,O8,nF,O9,yE,we,⟨?_,?_,hR3,DE,⟨_,rfl⟩,by simp [hB.len],SL,?_,?_,?_⟩,⟨jR,mh,⟨fun _ h=>h,(py gN.mono mf).2⟩,?_,by rw[hf.sa,hf.sb];exact gN.sz,hf.d,Pc.symm,Nat.le_trans gN.room cL.next,SL,?_,?_⟩,ie.mono cL.le,
  aH.trans (abY.weaken fun c hc=>by rw[hc];exact Nat.le_add_right _ _),by simpa using bl⟩
 ·intro j hj dj k hk
  rcases w6.1 dj with dj | rfl
  ·exact⟨(hB.closed j hj dj k hk).1,w6.2 (.inl (hB.closed j hj dj k hk).2)⟩
  ·exact⟨(hW k hk).1,w6.2 (.inl (hW k hk).2)⟩
 ·intro j oj hj dj iw
  obtain⟨h1,h2⟩:=u6 iw
  exact hB.ne j oj hj ((w6.1 dj).resolve_right fun e=>h2 e.symm) (yG h1)
 ·intro j hj iw
  obtain⟨h1,h2⟩:=u6 iw
  exact Pd j hj (fun e=>h2 e.symm) h1
 ·intro j hj dj
  cases hr:we (base+j) with
  | none=>rfl
  | some l=>
   rcases cL.jz _ _ hr with h | h | h
   ·rw[hB.jz j hj fun h=>dj (w6.2 (.inl h))] at h;cases h
   ·omega
   ·exact absurd (w6.2 (.inr (by omega))) dj
 ·intro j oj hj dj iw
  obtain⟨h1,h2⟩:=u6 iw
  have dj:=(w6.1 dj).resolve_right fun e=>h2 e.symm
  have GY:=iu hj
  have DF:=hB.ne j oj hj dj (yG h1)
  have SN:(W.getD j 0).testBit it.i=false:=by
   cases hw:(W.getD j 0).testBit it.i with
   | false=>rfl
   | true=>exact absurd (hB.closed j GY dj _ hw).2 hl
  obtain⟨u,hu,Dz⟩:=hB.O6 j oj hj dj (yG h1)
  have ql:∀t∈looks ops.toList oj,O9.tmps.get t=b.tmps.get t:=by
   intro t ht
   refine hf.Kn t fun hd=>?_
   rcases(hp.data _ _ _ _ _ hj ho hd ht).2 with h | ⟨_,h⟩
   ·rw[SN] at h;cases h
   ·rw[mf j h] at h1;cases h1
  refine⟨u,fun t ht=>?_,?_⟩
  ·rw[hf.Kn t fun hd=>h2 (hp.W2 _ _ _ _ _ ho hj hd ht)]
   exact hu t ht
  ·rw[cW j GY dj h1]
   rcases Dz with h | h | ⟨r1,r2,q,τ,r3,r4,r5,r6⟩
   ·
    obtain⟨E1,itj,E2,hE,mj⟩:=mU jR j GY iw
    rw[hE] at jR
    obtain⟨akc,ep,q1,_,_,_,q5⟩:=xE jR
    obtain⟨oj',W8,_,_,_,q6⟩:=cU q1
    rw[mj,hj] at W8;cases W8
    obtain⟨q7,q8,_⟩:=q6 DF
    have BD:itj.back≠0:=by
     intro e0
     unfold uF at q7
     rw[e0,List.drop_zero,mj] at q7
     cases ep with
     | nil=>
      have SO:(W.getD j 0).testBit it.i=true:=q7
      rw[SN] at SO;cases SO
     | cons f ep=>
      have SO:(W.getD j 0).testBit f=true:=q7
      obtain⟨r1,of,r2,r3⟩:=q5 f List.mem_cons_self
      obtain⟨r4,r5⟩:=u6 r1
      have:=hB.ne f of r2 (hB.closed j GY dj f SO).2 (yG r4)
      rw[r3] at this;cases this
    have GR:(aZ.kill (base+j)).heap.get (base+j)=none:=by rw[iI,if_pos rfl]
    by_cases hr:sm P oj.op=true
    ·have e1:=Dw hr h
     have iq:aZ.heap.get (base+j)=none:=wc GR e1
     obtain⟨r,gu⟩:=hB.head
     refine .inr (.inr ⟨hr,iq,1,σ,by rw[gu];rfl,Nat.le_refl _,fun f GZ=>?_,fun u' jD hh=>?_⟩)
     ·have:f=it.i:=by simpa using GZ
      rw[this];exact SN
     ·rw[kb ql] at hh
      have e2:=Dw hr hh
      rw[e2] at hh
      have w4:=hB.fresh j GY (yG h1)
      have:=zX (κ:=none) DF hB.act w4 hh (Dy hB.sub w4)
      rw[h] at this
      exact((Prod.mk.inj (bL.ok.inj this)).1).symm
    ·have afe:ee P oj.op=false:=by
      rcases q8 with h | h | h
      ·exact absurd h BD
      ·exact absurd h hr
      ·exact h
     obtain⟨v',w2,he,cN⟩:=Dr (P:=P) (id:=base+j) (ops:=ops.toList) (a:=b) DF afe (xD hr) (aZ.kill (base+j)) (fun r=>r=(u,(aZ.kill (base+j)).ext (base+j) (aZ.heap.get (base+j)))) (by rw[h];exact rfl)
     have e1:v'=u:=(Prod.mk.inj he).1
     have e2:w2=aZ.heap.get (base+j):=wc GR (Prod.mk.inj he).2
     subst e1
     exact .inr (.inl fun σ'=>by rw[kb ql,cN,e2])
   ·exact .inr (.inl fun σ'=>by rw[kb ql];exact h σ')
   ·refine .inr (.inr ⟨r1,r2,q+1,τ,r3,by omega,fun f GZ=>?_,fun u' jD hh=>r6 u' jD (by rw[←kb ql];exact hh)⟩)
    rw[List.take_succ_cons] at GZ
    rcases List.mem_cons.1 GZ with rfl | GZ
    ·exact SN
    ·exact r5 f GZ
 ·intro j hj
  rw[dD] at hj
  simp only[Bool.or_eq_true,decide_eq_true_eq] at hj
  rcases hj with hj | rfl
  ·exact⟨(gN.lS j hj).1,w6.2 (.inl (gN.lS j hj).2)⟩
  ·exact⟨bI,w6.2 (.inr rfl)⟩
 ·intro j hj iw
  obtain⟨h1,h2⟩:=u6 iw
  exact Pd j hj (fun e=>h2 e.symm) h1
 ·intro t ht
  by_cases hd:o.dst=some t
  ·exact hf.at_ t hd
  ·rw[hf.SF t hd,hf.Kn t hd]
   refine gN.agree t fun j oj hj dj iw=>?_
   by_cases e:it.i=j
   ·subst e;exact absurd dj hl
   ·exact ht j oj hj (w6.2 (.inl dj)) (by rw[dD,iw];simp [e])
theorem BI [Env] {L:List Oper} (hp:mT L W) (hb:base=σ₀.next) (hI:Inv P Rn ro F p L W base bS σ₀ fY listed a' w) (cN:∀i,i<L.length→cG listed i):bW p bS σ₀ fY .normal a' w:=by
 obtain⟨D,done,effs,snaps,a,σ,b,aZ,ρ,hB,hA,ie,aH,bl⟩:=hI
 have hlD:∀x∈D,cG listed x.i:=by
  intro x hx
  obtain⟨D1,D2,rfl⟩:=List.append_of_mem hx
  obtain⟨_,_,h1,_⟩:=xE hA.lu
  obtain⟨o,ho,_⟩:=cU h1
  exact cN _ (iu ho)
 have hA':BG P Rn ro p L W base listed done effs snaps b aZ (D++[]) done a σ:=by rw[List.append_nil];exact hA
 obtain⟨dn,ba,cc,gN,_,_⟩:=Ng hp hB hA' hlD
 have zY:p (.exit .normal ba,cc):=gN.holds
 have lR:∀j,j<L.length→dn.testBit j=true:=by
  have h':(List.range L.length).all dn.testBit=true:=gN.lu
  exact fun j hj=>List.all_eq_true.1 h' j (List.mem_range.2 hj)
 have fK:∀t,ba.tmps.get t=b.tmps.get t:=fun t=>gN.agree t fun j oj hj _ hd=>by rw[lR j (iu hj)] at hd;cases hd
 have mb:=aH.sub gN.sub gN.DC
 refine⟨.normal,ba,cc,ρ,zY,rfl,⟨fun t v hv=>hB.act.tmps t v (by rw[←fK];exact hv),by rw[gN.sz];exact hB.act.size,by rw[gN.df];exact hB.act.defers⟩,?_⟩
 refine⟨mb.r,mb.le,mb.next,fun c l hc=>?_,mb.size,mb.os,mb.tape,mb.output,mb.aV,mb.wr,fun c k hc=>?_,mb.iG⟩
 ·rcases mb.jz c l hc with h | h | h
  ·exact .inl h
  ·exact .inr (.inl h)
  ·exact .inr (.inl (by rw[←hb];exact h))
 ·rcases mb.jL c k hc with h | h | h
  ·exact .inl h
  ·exact .inr (.inl h)
  ·exact .inr (.inl (by rw[←hb];exact h))
theorem Kq [Env] {L:List Oper}:∀ {D:List Item} {dn:Nat} {ef:List Nat},dB P L W dn ef D=true→(∀j,dn.testBit j=true→j<L.length∧cG listed j)→
  (∀i,i<L.length→cG listed i)∨∃i o,L[i]? =some o∧¬cG listed i∧∀j,(W.getD i 0).testBit j=true→j<L.length∧cG listed j:=by
 intro D
 induction D with
 | nil=>
  intro dn ef h lR
  have h':(List.range L.length).all dn.testBit=true:=h
  exact .inl fun i hi=>(lR i (List.all_eq_true.1 h' i (List.mem_range.2 hi))).2
 | cons it D ih=>
  intro dn ef h lR
  obtain⟨o,ho,_,mf,h1,h2⟩:=cU h
  by_cases hl:cG listed it.i
  ·have W9:∀j,(Nat.lor dn (2^it.i)).testBit j=true→j<L.length∧cG listed j:=by
    intro j hj
    rw[dD] at hj
    simp only[Bool.or_eq_true,decide_eq_true_eq] at hj
    rcases hj with hj | rfl
    ·exact lR j hj
    ·exact⟨iu ho,hl⟩
   cases he:bt o.op with
   | true=>exact ih (h1 he).2 W9
   | false=>exact ih (h2 he).2.2 W9
  ·exact .inr ⟨it.i,o,ho,hl,fun j hj=>lR j (mf j hj)⟩
def DH (n:Nat) (listed:Array Bool):Nat:=(List.range n).countP fun i=> !listed.getD i true
theorem Ui [Env] {n i:Nat} (hi:i<n) (hs:listed.size=n) (hl:¬cG listed i):DH n (listed.setIfInBounds i true)<DH n listed:=by
 unfold DH
 have hle:∀(l:List Nat),l.countP (fun j=> !(listed.setIfInBounds i true).getD j true)+(if i∈l then 1 else 0)≤l.countP fun j=> !listed.getD j true:=by
  intro l
  induction l with
  | nil=>simp
  | cons x l ih=>
   rw[List.countP_cons,List.countP_cons]
   have hx:cG (listed.setIfInBounds i true) x↔cG listed x∨x=i:=cG.set (by omega)
   by_cases e:x=i
   ·subst e
    have h1:(listed.setIfInBounds x true).getD x true=true:=hx.2 (.inr rfl)
    have h2:listed.getD x true=false:=by
     cases hq:listed.getD x true with
     | false=>rfl
     | true=>exact absurd hq hl
    rw[h1,h2]
    simp only[List.mem_cons,true_or,if_true,Bool.not_true,Bool.false_eq_true,if_false,Bool.not_false]
    have:(if x∈l then 1 else 0)≤1:=by split<;>omega
    omega
   ·have h1:(listed.setIfInBounds i true).getD x true=listed.getD x true:=by
     cases hq:listed.getD x true with
     | true=>exact hx.2 (.inl hq)
     | false=>
      cases j8:(listed.setIfInBounds i true).getD x true with
      | false=>rfl
      | true=>
       rcases hx.1 j8 with h | h
       ·have h':listed.getD x true=true:=h
        rw[hq] at h';cases h'
       ·exact absurd h e
    have bN:¬i=x:=fun h=>e h.symm
    rw[h1]
    simp only[List.mem_cons,bN,false_or]
    omega
 have:=hle (List.range n)
 rw[if_pos (List.mem_range.2 hi)] at this
 omega
theorem Nh [Env] (hg:Good P Rn) {ops:Array Oper} (hp:mT ops.toList W) (hb:base=σ₀.next):∀(fuel:Nat) {listed:Array Bool} {a':Go.Act} {w:World},Inv P Rn ro F p ops.toList W base bS σ₀ fY listed a' w→DH ops.toList.length listed≤fuel→
  wpAnyIn F 0 P .any ops (bW p bS σ₀ fY) fuel listed a' w:=by
 have Kr:∀ {listed:Array Bool} {i:Nat},i∈Region.ready .any ops listed↔listed.getD i true=false∧∃o,ops[i]? =some o∧∀e∈o.after,Region.binds .any e=true→listed.getD e.on false=true:=mem_ready
 have SQ:∀ {listed:Array Bool} {j:Nat},listed.size=ops.toList.length→(listed.getD j false=true↔j<ops.toList.length∧cG listed j):=by
  intro listed j hs
  unfold cG
  rw[Array.getD_eq_getD_getElem?,Array.getD_eq_getD_getElem?]
  by_cases hj:j<listed.size
  ·have h1:j<ops.toList.length:=by rw[←hs];exact hj
   rw[Array.getElem?_eq_getElem hj]
   exact⟨fun h=>⟨h1,h⟩,fun h=>h.2⟩
  ·rw[Array.getElem?_eq_none (by omega)]
   exact⟨fun h=>(by cases h),fun h=>absurd h.1 (by rw[←hs];exact hj)⟩
 have Xa:∀ {listed:Array Bool} {a':Go.Act} {w:World},Inv P Rn ro F p ops.toList W base bS σ₀ fY listed a' w→Region.ready .any ops listed=[]→∀i,i<ops.toList.length→cG listed i:=by
  intro listed a' w hI sB
  obtain⟨D,done,effs,snaps,a,σ,b,aZ,ρ,hB,hA,ie,aH,bl⟩:=hI
  rcases Kq hA.lu hA.lS with h | ⟨i,o,ho,hl,hW⟩
  ·exact h
  ·have:i∈Region.ready .any ops listed:=by
    refine Kr.2 ⟨?_,o,by rw[←Array.getElem?_toList];exact ho,fun e he DI=>?_⟩
    ·cases hq:listed.getD i true with
     | false=>rfl
     | true=>exact absurd hq hl
    ·refine(SQ bl).2 (hW _ ?_)
     rw[hp.wait i o ho]
     exact yB.2 ⟨e,he,DI,.inl rfl⟩
   rw[sB] at this;cases this
 intro fuel
 induction fuel with
 | zero=>
  intro listed a' w hI hf
  have cN:∀i,i<ops.toList.length→cG listed i:=by
   intro i hi
   cases hq:listed.getD i true with
   | true=>exact hq
   | false=>
    have:0<DH ops.toList.length listed:=by
     unfold DH
     exact List.countP_pos_iff.2 ⟨i,List.mem_range.2 hi,by rw[hq];rfl⟩
    omega
  refine⟨?_,BI hp hb hI cN⟩
  rw[List.eq_nil_iff_forall_not_mem]
  intro i hi
  obtain⟨h1,o,ho,_⟩:=Kr.1 hi
  have:cG listed i:=cN i (iu (by rw[Array.getElem?_toList];exact ho))
  unfold cG at this
  rw[h1] at this;cases this
 | succ fuel ih=>
  intro listed a' w hI hf
  refine⟨fun sB=>BI hp hb hI (Xa hI sB),fun i hi=>?_⟩
  obtain⟨h1,o,ho,hed⟩:=Kr.1 hi
  have SR:ops.toList[i]? =some o:=by rw[Array.getElem?_toList];exact ho
  have hl:¬cG listed i:=by unfold cG;rw[h1];simp
  obtain⟨D,done,effs,snaps,a,σ,b,aZ,ρ,hB,hA,ie,aH,bl⟩:=id hI
  have hW:∀j,(W.getD i 0).testBit j=true→j<ops.toList.length∧cG listed j:=by
   intro j hj
   rw[hp.wait i o SR] at hj
   obtain⟨e,he,DI,Xb⟩:=yB.1 hj
   have:=(SQ bl).1 (hed e he DI)
   rcases Xb with rfl | Xb
   ·exact this
   ·exact hB.closed _ this.1 this.2 j Xb
  have hK:∀js fD,Inv P Rn ro F p ops.toList W base bS σ₀ fY (listed.setIfInBounds i true) js fD→wpAnyIn F 0 P .any ops (bW p bS σ₀ fY) fuel (listed.setIfInBounds i true) js fD:=by
   intro js fD hI'
   have:=Ui (iu SR) bl hl
   exact ih hI' (by omega)
  cases he:bt o.op with
  | true=>exact Pa hg hp hI SR he hl hW hK
  | false=>exact Uh hg hp hI SR he hl hW hK
theorem Gv [Env] (hg:Good P Rn) (jM:P.follows .mixedOrders=true) {ρ:Ren} {σ:St} (hr:R ρ σ w) {a:Act} {a':Go.Act} (ha:bO ρ a a') (bH:fZ ρ ro F) {id:Nat} {ops:Array Oper} {p:Out×St→Prop}
  (h:((vY P ops.toList true).f Rn ro a σ).Holds p):(Code.region id ops true).wpIn F 0 P (bW p ρ σ w) a' w:=by
 refine wpIn_region_any jM ?_
 unfold vY at h
 dsimp only at h
 split at h
 ·rename_i l hl
  obtain⟨W,hp,jR⟩:=Gt hl
  have hn:(ahead (len ops.toList) σ).next=σ.next+ops.toList.length:=by obtain⟨hh,m⟩:=σ;rw[aO];rfl
  have hh:∀c,(ahead (len ops.toList) σ).heap.get c=σ.heap.get c:=by intro c;obtain⟨hh,m⟩:=σ;rfl
  have Pf:∀i,i<ops.toList.length→¬cG (Array.replicate ops.size false) i:=by
   intro i hi hl
   unfold cG at hl
   rw[Array.getD_eq_getD_getElem?] at hl
   simp at hi
   simp [hi] at hl
  have nU:∀i,i<ops.toList.length→ρ (σ.next+i)=none:=fun i _=>hr.fresh _ (Nat.le_add_right _ _)
  have gu:R ρ (ahead (len ops.toList) σ) {w with drawn:=w.drawn+1}:=
   ⟨fun c k hc=>by rw[hh] at hc;exact(hr.congr (w':={w with drawn:=w.drawn+1}) rfl).di c k hc,fun c c' k k' l l' h1 h2=>by rw[hh] at h1 h2;exact hr.inj c c' k k' l l' h1 h2,fun c hc=>hr.fresh c (by rw[hn] at hc;omega),hr.valid,
    fun c o x hx=>⟨(hr.aW c o x hx).1,fun⟨c',k,l,h1,h2,h3,h4⟩=>(hr.aW c o x hx).2 ⟨c',k,l,by rw[←hh];exact h1,h2,h3,h4⟩⟩,hr.laid⟩
  refine Nh (base:=σ.next) hg hp rfl ops.size ⟨l,0,[],[_],a,_,a,_,ρ,⟨?_,?_,gu,ha,⟨[],rfl⟩,rfl,fun _ _ h=>h,?_,?_,?_⟩,⟨jR,h,⟨fun _ h=>h,fun j k hj _=>by simp at hj⟩,fun i hi=>by simp at hi,rfl,rfl,rfl,by rw[hn];exact Nat.le_refl _,fun _ _ h=>h,?_,fun _ _=>rfl⟩,bH,?_,by simp⟩ ?_
  ·intro i hi hl;exact absurd hl (Pf i hi)
  ·intro i o ho hl;exact absurd hl (Pf i (iu ho))
  ·intro i hi _;rw[hh];exact hr.od (nU i hi)
  ·intro i hi _;exact nU i hi
  ·intro i o ho hl;exact absurd hl (Pf i (iu ho))
  ·intro i hi _;rw[hh];exact hr.od (nU i hi)
  ·exact⟨gu,Ren.le.refl ρ,by rw[hn];omega,fun _ _ h=>.inl h,Nat.le_refl _,rfl,rfl,rfl,fun _ _ _=>rfl,fun c _ ⟨c',k,l,h1,h2,h3,h4⟩=>⟨c',k,l,by rw[←hh];exact h1,h2,h3,h4⟩,fun c k hc=>.inl ⟨k,by rw[←hh];exact hc⟩,fun _ _ _ h=>.inl h⟩
  ·have:=List.countP_le_length (p:=fun i=> !(Array.replicate ops.size false).getD i true) (l:=List.range ops.toList.length)
   simpa [DH] using this
 ·exact h.elim
end
end Go.Ev
end
section
namespace Go.Ev
open Go
section
variable {P:Program} {ρ:Ren} {σ:St} {w:World} {Rn:Task→St→Run} {F:Fence} {ro:Option Nat}
end
end Go.Ev
end
section
namespace Go.Ev
open Go
section
variable {P:Program} {ρ:Ren} {σ:St} {w:World} {Rn:Task→St→Run} {F:Fence} {ro:Option Nat}
theorem u7 [Env] {q p:Out×St→Prop} {K:Go.Act→World→Prop} {e:Exit} {a':Go.Act} {w':World} (h:bW q ρ σ w e a' w')
  (hn:∀a σ' ρ',q (.exit .normal a,σ')→bO ρ' a a'→bn qh ρ σ w ρ' σ' w'→K a' w')
  (he:∀x a σ',x≠.normal→q (.exit x a,σ')→p (.exit x a,σ')):Exit.then K (bW p ρ σ w) e a' w':=by
 obtain⟨x,a,σ',ρ',h1,rfl,h3,h4⟩:=h
 cases x with
 | normal=>exact hn _ _ _ h1 h3 h4
 | exit i=>exact⟨_,_,_,_,he _ _ _ (by simp) h1,rfl,h3,h4⟩
 | goto i=>exact⟨_,_,_,_,he _ _ _ (by simp) h1,rfl,h3,h4⟩
 | ret=>exact⟨_,_,_,_,he _ _ _ (by simp) h1,rfl,h3,h4⟩
theorem u9 {x:Code} {Q:Exit→Go.Act→World→Prop} {a:Go.Act} {w:World}
  (h:x.wpIn F 0 P (Exit.then (fun a' w'=>j7 F P x Q a' w') Q) a w):(Code.loop x).wpIn F 0 P Q a w∧j7 F P x Q a w:=by
 have key:∀(b:Frame) (k:List Go.Item) (cs:List Frame),b.roundOf=F.round→F.fn b.fn→F.room (cs.length+1+0)→
   ∃e a' w',Q e a' w'∧ArrivesIn (Machine.fenced P F) P (lone (b.atR a (.code x::.inLoop x::k)) cs w) b k cs e a' w':=by
  intro b k cs ie hb hr
  obtain⟨e,bf,bq,hq,hU⟩:=h b (.inLoop x::k) cs ie hb hr
  cases e with
  | normal=>
   obtain⟨Pg,ba,fD,Ks,zZ⟩:=hq b k cs ie hb hr
   exact⟨Pg,ba,fD,Ks,.of_steps hU zZ⟩
  | exit id=>exact⟨_,bf,bq,hq,.pass (x:=.inLoop x) rfl (fun _ _=>.inl (by simp)) hU⟩
  | goto l=>exact⟨_,bf,bq,hq,.pass (x:=.inLoop x) rfl (fun _ _=>.inl (by simp)) hU⟩
  | ret=>exact⟨_,bf,bq,hq,.pass (x:=.inLoop x) rfl (fun _ _=>.inl (by simp)) hU⟩
  | panic ch=>exact⟨_,bf,bq,hq,.pass (x:=.inLoop x) rfl (fun _ _=>.inl (by simp)) hU⟩
  | outgrown=>exact⟨_,bf,bq,hq,.pass (x:=.inLoop x) rfl (fun _ _=>.inl (by simp)) hU⟩
 constructor
 ·intro b k cs ie hb hr
  obtain⟨e,a',w',hq,hU⟩:=key b k cs ie hb hr
  exact⟨e,a',w',hq,.of_steps (.one (fenced_calm hb hr rfl) stepR_loop) hU⟩
 ·intro b k cs ie hb hr
  obtain⟨e,a',w',hq,hU⟩:=key b k cs ie hb hr
  exact⟨e,a',w',hq,.of_steps (.one (fenced_calm hb hr rfl) stepR_inLoop) hU⟩
theorem Gw {b:Frame} {a:Go.Act} {k:List Go.Item} {cs:List Frame} {c:Code}:Go.step P (lone (b.atR a (.code (.scope c)::k)) cs w)=.next (lone (b.atR a (.code c::.inScope c::k)) cs w):=
 step_lone_go (by simp [stepG,stepG.exec,Frame.atR])
theorem Cp {b:Frame} {a:Go.Act} {k:List Go.Item} {cs:List Frame} {c:Code}:Go.step P (lone (b.atR a (.inScope c::k)) cs w)=.next (lone (b.atR a k) cs w):=
 step_lone_go (by simp [stepG,stepG.exec,Frame.atR])
theorem uc [Env] {x:Code} {Q:Exit→Go.Act→World→Prop} {a:Go.Act} {w:World} (h:lQ F P x x Q a w):(Code.scope x).wpIn F 0 P Q a w:=by
 intro b k cs ie hb hr
 obtain⟨e,a',w',hq,hU⟩:=h b k cs ie hb hr
 exact⟨e,a',w',hq,.of_steps (.one (fenced_calm hb hr rfl) Gw) hU⟩
theorem yH [Env] {x cur:Code} {Q:Exit→Go.Act→World→Prop} {a:Go.Act} {w:World}
  (h:cur.wpIn F 0 P (fun e a' w'=>match e with
   | .goto l=>(∀rest,findLabel x l=some rest→lQ F P x rest Q a' w')∧(findLabel x l=none→Q (.goto l) a' w')
   | e=>Q e a' w') a w):lQ F P x cur Q a w:=by
 intro b k cs ie hb hr
 obtain⟨e,bf,bq,hq,hU⟩:=h b (.inScope x::k) cs ie hb hr
 cases e with
 | normal=>exact⟨.normal,bf,bq,hq,StepsIn.trans hU (.one (fenced_calm hb hr rfl) Cp)⟩
 | exit id=>
  have hx:exitTo id (.inScope x::k)=exitTo id k:=by simp [exitTo]
  exact⟨.exit id,bf,bq,hq,fun k' hk=>hU.1 k' (by rw[hx];exact hk),fun gu hk=>hU.2 gu (by rw[hx];exact hk)⟩
 | goto l=>
  cases hf:findLabel x l with
  | some rest=>
   have hs:=hU.1 (.code rest::.inScope x::k) (by simp [gotoIn,hf])
   obtain⟨Pg,ba,fD,Ks,zZ⟩:=hq.1 rest hf b k cs ie hb hr
   exact⟨Pg,ba,fD,Ks,.of_steps hs zZ⟩
  | none=>
   have hx:gotoIn l (.inScope x::k)=gotoIn l k:=by simp [gotoIn,hf]
   exact⟨.goto l,bf,bq,hq.2 hf,fun k' hk=>hU.1 k' (by rw[hx];exact hk),fun gu hk=>hU.2 gu (by rw[hx];exact hk)⟩
 | ret=>exact⟨_,bf,bq,hq,hU⟩
 | panic ch=>exact⟨_,bf,bq,hq,hU⟩
 | outgrown=>exact⟨_,bf,bq,hq,hU⟩
theorem LeavesInM.mono {n:Nat} {fn:Func} {tmps:Array Value} {Q Q':Ending→World→Prop}:∀ {ds:List Deferred} {u:FrameMode} {w:World},LeavesInM F n P fn tmps Q ds u w→(∀e w,Q e w→Q' e w)→LeavesInM F n P fn tmps Q' ds u w:=by
 intro ds
 induction ds with
 | nil=>
  intro u w h hq
  cases u with
  | run=>exact h.elim
  | returning=>obtain⟨v,h1,h2⟩:=h;exact⟨v,h1,hq _ _ h2⟩
  | panicking c=>exact hq _ _ h
 | cons d ds ih=>
  intro u w h hq
  obtain⟨h1,h2⟩:=h
  refine⟨h1,h2.imp ?_ ?_⟩
  ·rintro⟨r,w',a,b,c⟩;exact⟨r,w',a,b,ih c hq⟩
  ·rintro⟨a,fv,cap,f,args,b,c,d,e⟩
   refine⟨a,fv,cap,f,args,b,c,d,e.mono fun e u' w' h=>?_⟩
   cases e with
   | returned v=>exact ih h hq
   | panicked c=>exact ih h hq
   | outgrown=>exact hq _ _ h
theorem qM [Env] (hg:Good P Rn) (jM:P.follows .mixedOrders=true) {fn:FuncId}:∀(c:Code) {a:Act} {σ:St} {p:Out×St→Prop},((kx P fn c).f Rn ro a σ).Holds p→
  ∀ {ρ:Ren} {w:World} {a':Go.Act},R ρ σ w→bO ρ a a'→fZ ρ ro F→c.wpIn F 0 P (bW p ρ σ w) a' w∧∀x,c=.loop x→j7 F P x (bW p ρ σ w) a' w:=by
 intro c
 induction c with
 | skip=>
  intro a σ p h ρ w a' hr ha bH
  exact⟨wpIn_skip ⟨.normal,_,_,_,h,rfl,ha,bn.refl hr⟩,fun _ e=>by cases e⟩
 | label l=>
  intro a σ p h ρ w a' hr ha bH
  exact⟨wpIn_label ⟨.normal,_,_,_,h,rfl,ha,bn.refl hr⟩,fun _ e=>by cases e⟩
 | exit i=>
  intro a σ p h ρ w a' hr ha bH
  exact⟨wpIn_exit ⟨.exit i,_,_,_,h,rfl,ha,bn.refl hr⟩,fun _ e=>by cases e⟩
 | goto l=>
  intro a σ p h ρ w a' hr ha bH
  exact⟨wpIn_goto ⟨.goto l,_,_,_,h,rfl,ha,bn.refl hr⟩,fun _ e=>by cases e⟩
 | ret=>
  intro a σ p h ρ w a' hr ha bH
  exact⟨wpIn_ret ⟨.ret,_,_,_,h,rfl,ha,bn.refl hr⟩,fun _ e=>by cases e⟩
 | seq x y ihx Xc=>
  intro a σ p h ρ w a' hr ha bH
  refine⟨wpIn_seq (wpIn_mono (ihx (bL.Holds.bind h) hr ha bH).1 fun e bf bq fS=>?_),fun _ e=>by cases e⟩
  refine u7 fS (fun a σ' ρ' hq Xd aH=>?_) (fun x a σ' hx hq=>?_)
  ·exact wpIn_mono (Xc hq aH.r Xd (bH.mono aH.le)).1 fun _ _ _ hp=>bW.trans aH hp
  ·cases x<;>first | exact absurd rfl hx | exact hq
 | cond x y z Xc ihz=>
  intro a σ p h ρ w a' hr ha bH
  refine⟨?_,fun _ e=>by cases e⟩
  have h':(J9 ((kx P fn y).f Rn ro) ((kx P fn z).f Rn ro) a σ (a.eval x)).Holds p:=h
  unfold J9 at h'
  split at h'
  ·rename_i hx;exact wpIn_cond_true ((ha.eval x hx).rv) (Xc h' hr ha bH).1
  ·rename_i hx;exact wpIn_cond_false ((ha.eval x hx).rv) (ihz h' hr ha bH).1
  ·exact h'.elim
 | block id x ih=>
  intro a σ p h ρ w a' hr ha bH
  refine⟨wpIn_block (wpIn_mono (ih (bL.Holds.bind h) hr ha bH).1 fun e bf bq fS=>?_),fun _ e=>by cases e⟩
  obtain⟨e,b,σ',ρ',h1,rfl,h3,h4⟩:=fS
  cases e with
  | normal=>exact⟨.normal,_,_,_,h1,rfl,h3,h4⟩
  | exit i=>
   have fi:p (.exit (if i=id then .normal else .exit i) b,σ'):=h1
   by_cases hi:i=id
   ·simp only[ry,Exit.inBlock,hi,if_true]
    rw[if_pos hi] at fi
    exact⟨.normal,_,_,_,fi,rfl,h3,h4⟩
   ·simp only[ry,Exit.inBlock,hi,if_false]
    rw[if_neg hi] at fi
    exact⟨.exit i,_,_,_,fi,rfl,h3,h4⟩
  | goto l=>exact⟨.goto l,_,_,_,h1,rfl,h3,h4⟩
  | ret=>exact⟨.ret,_,_,_,h1,rfl,h3,h4⟩
 | loop x ih=>
  intro a σ p h ρ w a' hr ha bH
  refine⟨hg.code h hr ha bH,fun y e=>?_⟩
  cases e
  exact hg.loop h hr ha bH
 | region id ops draw=>
  intro a σ p h ρ w a' hr ha bH
  refine⟨?_,fun _ e=>by cases e⟩
  cases draw with
  | false=>exact Dm hg hr ha bH h
  | true=>exact Gv hg jM hr ha bH h
 | rangeFunc f ps akK bo _ _=>
  intro a σ p h ρ w a' hr ha bH
  exact h.elim
 | scope x ih=>
  intro a σ p h ρ w a' hr ha bH
  exact⟨uc (hg.inScope h hr ha bH),fun _ e=>by cases e⟩
 | refuse u=>
  intro a σ p h ρ w a' hr ha bH
  exact h.elim
theorem Gx [Env] (hg:Good P Rn) (jM:P.follows .mixedOrders=true) {fn:FuncId} {x:Code} {a:Act} {σ:St} {p:Out×St→Prop} (h:(((kx P fn x).f Rn ro a σ).bind (OR fun a σ=>Rn (.code ro fn (.loop x) a) σ)).Holds p)
  {ρ:Ren} {w:World} {a':Go.Act} (hr:R ρ σ w) (ha:bO ρ a a') (bH:fZ ρ ro F):(Code.loop x).wpIn F 0 P (bW p ρ σ w) a' w∧j7 F P x (bW p ρ σ w) a' w:=by
 refine u9 (wpIn_mono (qM hg jM x (bL.Holds.bind h) hr ha bH).1 fun e bf bq fS=>?_)
 refine u7 fS (fun a σ' ρ' hq Xd aH=>?_) (fun x a σ' hx hq=>?_)
 ·exact(hg.loop hq aH.r Xd (bH.mono aH.le)).mono fun _ _ _ hp=>bW.trans aH hp
 ·cases x<;>first | exact absurd rfl hx | exact hq
theorem rB [Env] (hg:Good P Rn) (jM:P.follows .mixedOrders=true) {fn:FuncId} (c:Code) {a:Act} {σ:St} {p:Out×St→Prop} (h:(xy P Rn ro fn a σ c).Holds p) {ρ:Ren} {w:World} {a':Go.Act} (hr:R ρ σ w) (ha:bO ρ a a') (bH:fZ ρ ro F):
  c.wpIn F 0 P (bW p ρ σ w) a' w∧∀x,c=.loop x→j7 F P x (bW p ρ σ w) a' w:=by
 by_cases hl:∃x,c=.loop x
 ·obtain⟨x,rfl⟩:=hl
  obtain⟨h1,h2⟩:=Gx hg jM h hr ha bH
  exact⟨h1,fun y e=>by cases e;exact h2⟩
 ·refine qM (fn:=fn) hg jM c (a:=a) ?_ hr ha bH
  cases c<;>first
   | exact absurd ⟨_,rfl⟩ hl
   | exact h
end
end Go.Ev
end
section
namespace Go.Ev
open Go
section
variable {P:Program} {ρ:Ren} {σ:St} {w:World} {Rn:Task→St→Run}
theorem BJ [Env] {vs:List V} {vs':List Value} (h:aB ρ vs vs') (n:Nat):bO ρ (oK n vs) {tmps:=⟨vs'⟩++Array.replicate (n-(⟨vs'⟩:Array Value).size) undef,defers:=[]}:=by
 have hl:=h.length
 refine⟨fun i v hv=>?_,?_,.nil⟩
 ·have ov:(cC.J1 vs (cC.blank n) 0).get i=some v:=hv
  rw[cC.OP] at ov
  have hi:vs[i]? =some v:=by
   split at ov
   ·simpa using ov
   ·rw[cC.MG] at ov;cases ov
  obtain⟨x,hx,aT⟩:=h.get i hi
  refine⟨x,?_,aT⟩
  have bI:i<vs'.length:=(List.getElem?_eq_some_iff.1 hx).1
  show((⟨vs'⟩:Array Value)++_)[i]? =_
  rw[Array.getElem?_append_left (by simpa using bI)]
  simpa using hx
 ·show max n (len vs)=_
  rw[aO]
  simp
  omega
theorem DJ [Env] (hr:R ρ σ w) {a:Act} {a':Go.Act} (ha:bO ρ a a'):∀(rs:List ResultVar) {l:List V},fj P a σ rs=some l→
  ∃l':List Value,(rs.mapM fun r=>(match r with
   | .tmp t=>pure (a'.tmps.getD t undef)
   | .cell x t=>do loadVar t (←asAddr (a'.tmps.getD x undef)):Sem Value)).run P w=.ok l' w∧aB ρ l l':=by
 intro rs
 induction rs with
 | nil=>intro l h;cases h;exact⟨[],rfl,.nil⟩
 | cons r rs ih=>
  intro l h
  have fK:∀ {t:Tmp} {v:V},a.tmps.get t=some v→au ρ v (a'.tmps.getD t undef):=by
   intro t v hv
   obtain⟨x,hx,aT⟩:=ha.tmps t v hv
   rw[Array.getD_eq_getD_getElem?,hx]
   exact aT
  cases r with
  | tmp t=>
   unfold fj at h
   split at h
   ·rename_i v cr hv hl
    cases h
    obtain⟨l',aP,aT⟩:=ih hl
    refine⟨a'.tmps.getD t undef::l',?_,.cons (fK hv) aT⟩
    rw[List.mapM_cons]
    simp only[Sem.run_bind,Sem.run_pure,Result.andThen_ok,aP]
   ·cases h
  | cell x t=>
   unfold fj at h
   split at h
   ·rename_i v cr hv hl
    rw[Option.map_eq_some_iff] at h
    obtain⟨u,hu,rfl⟩:=h
    obtain⟨l',aP,aT⟩:=ih hl
    obtain⟨u',_,abZ,ad,had,yu⟩:=Bw (P:=P) hr (fK hv) hu
    refine⟨u'::l',?_,.cons abZ aT⟩
    rw[List.mapM_cons]
    dsimp only
    have hA:(asAddr (.pointer (some ad))).run P w=.ok ad w:=rfl
    rw[had]
    simp only[Sem.run_bind,hA,Result.andThen_ok,Sem.run_pure,yu,aP]
   ·cases h
theorem Cq [Env] (hr:R ρ σ w) {a:Act} {a':Go.Act} (ha:bO ρ a a') {fn:Func} {l:List V} (h:fj P a σ fn.results.toList=some l):
  ∃v',(results fn a'.tmps).run P w=.ok v' w∧au ρ (so l) v':=by
 obtain⟨l',aP,aT⟩:=DJ (P:=P) hr ha _ h
 refine⟨if hh:(⟨l'⟩:Array Value).size=1 then(⟨l'⟩:Array Value)[0] else .tuple ⟨l'⟩,?_,?_⟩
 ·unfold results
  rw[Sem.run_bind,Array.mapM_eq_mapM_toList,Sem.run_map]
  exact congrArg (fun r:Result (List Value)=>((r.andThen fun a w'=>Result.ok a.toArray w').andThen fun a w'=>Sem.run P (pure (if h:a.size=1 then a[0] else Value.tuple a)) w')) aP
 ·cases aT with
  | nil=>exact .tuple .nil
  | cons h1 h2=>cases h2 with
   | nil=>exact h1
   | cons h3 h4=>
    rw[dif_neg (by simp)]
    exact .tuple (.cons h1 (.cons h3 h4))
theorem pz {f:FuncId} {fn:Func} {c:Code} (hf:P.funcs[f]? =some fn) (hb:fn.body=some c) (hn:(fn.name== "runtime.NumGoroutine")=false) (args:Array Value):(callFunc f args).run P w=.ok (.enter f args) w:=by
 have yx:(program).run P w=.ok P w:=rfl
 simp only[callFunc,Sem.run_bind,yx,Result.andThen_ok,hf,hn,Bool.false_eq_true,if_false,hb,Option.isNone_some,Sem.run_pure]
theorem z6 [Env] {f:FuncId} {fn:Func} {args:List V} {K:Out×St→Run} {p:Out×St→Prop} (h:(sr Rn f fn args σ K fn.body).Holds p):
  ∃c,fn.body=some c∧(fn.name== "runtime.NumGoroutine")=false∧(Rn (.code none f c (oK fn.ntmps args)) σ).Holds fun x=>(K x).Holds p:=by
 unfold sr at h
 split at h
 ·rename_i c hb
  split at h
  ·exact h.elim
  ·rename_i hn
   exact⟨c,hb,hn,h.bind⟩
 ·exact h.elim
theorem BK [Env] (jM:P.follows .mixedOrders=true) (hg:Good P Rn):Good P (step P Rn):=by
 constructor
 case code=>
  intro ro fn c a σ p h ρ w a' F hr ha bH
  exact(rB hg jM c h hr ha bH).1
 case loop=>
  intro ro fn x a σ p h ρ w a' F hr ha bH
  exact(rB hg jM (.loop x) h hr ha bH).2 x rfl
 case inScope=>
  intro ro fn x cur a σ p h ρ w a' F hr ha bH
  refine yH (wpIn_mono (qM hg jM cur (bL.Holds.bind h) hr ha bH).1 fun e bf bq fS=>?_)
  obtain⟨e,b,σ',ρ',h1,rfl,h3,h4⟩:=fS
  cases e with
  | normal=>exact⟨.normal,_,_,_,h1,rfl,h3,h4⟩
  | exit i=>exact⟨.exit i,_,_,_,h1,rfl,h3,h4⟩
  | ret=>exact⟨.ret,_,_,_,h1,rfl,h3,h4⟩
  | goto l=>
   have fi:(match findLabel x l with
    | some rest=>Rn (.inScope ro fn x rest b) σ'
    | none=>.ok (.exit (.goto l) b,σ'):Run).Holds p:=h1
   refine⟨fun rest hf=>?_,fun hf=>?_⟩
   ·rw[hf] at fi
    exact(hg.inScope fi h4.r h3 (bH.mono h4.le)).mono fun _ _ _ hp=>bW.trans h4 hp
   ·rw[hf] at fi
    exact⟨.goto l,_,_,_,fi,rfl,h3,h4⟩
 case call=>
  intro f vs σ p h ρ w vs' hr hv
  have h':(nR Rn f vs σ P.funcs[f]?).Holds p:=h
  unfold nR at h'
  split at h'
  ·rename_i fn hf
   obtain⟨c,hb,hn,hc⟩:=z6 h'
   refine⟨pz hf hb hn _,callsIn_of_wp_marks hf hb trivial (wpIn_mono (hg.code hc hr (BJ hv fn.ntmps) rfl) fun e bf bq fS=>?_)⟩
   obtain⟨e,b,σ',ρ',h1,rfl,h3,h4⟩:=fS
   have fin:(Rn (.leave fn b) σ').Holds p→LeavesInM Fence.wide 0 P fn bf.tmps (cO p ρ σ w) bf.defers .returning bq:=by
    intro h
    exact LeavesInM.mono (hg.leave h h4.r h3) fun e w' hv=>cO.trans h4 hv
   cases e with
   | normal=>exact fin h1
   | ret=>exact fin h1
   | exit i=>exact bL.Holds.uV h1
   | goto l=>exact bL.Holds.uV h1
  ·exact h'.elim
 case deferred=>
  intro f vs σ p h ρ w vs' hr hv
  exact(show False from h).elim
 case leave=>
  intro fn a σ p h ρ w a' hr ha
  have h':(qb P Rn fn a σ a.defers).Holds p:=h
  have Xe:=ha.defers
  unfold qb at h'
  split at h'
  ·rename_i hd
   rw[hd] at Xe
   have GU:a'.defers=[]:=by
    generalize a'.defers=l at Xe
    cases Xe;rfl
   rw[GU]
   unfold zG at h'
   split at h'
   ·rename_i l hl
    obtain⟨v',aP,aT⟩:=Cq hr ha hl
    exact⟨v',aP,_,_,ρ,v',h',rfl,aT,bn.refl hr⟩
   ·exact h'.elim
  ·exact h'.elim
 case apply=>
  intro f vs σ p h ρ w f' vs' hr hf hv
  have h':(uI Rn vs σ f).Holds p:=h
  unfold uI at h'
  split at h'
  ·rename_i g first captured
   cases hf with
   | func Xf hx hy=>
    rename_i Wy x' y'
    have aff:Wy=.func g:=by cases Xf with | same _=>rfl
    subst aff
    obtain⟨M4,fp⟩:=hg.call h' hr (vs':=x'++(vs'++y')) (by rw[iS,iS];exact hx.append (hv.append hy))
    refine⟨{target:=.fn (.func g) ⟨y'⟩,args:=⟨x'⟩++⟨vs'⟩},rfl,.inl ⟨g,⟨x'++(vs'++y')⟩,?_,fp⟩⟩
    have e1:((⟨x'⟩++⟨vs'⟩:Array Value)++⟨y'⟩)=⟨x'++(vs'++y')⟩:=by simp
    simp only[invoke]
    rw[e1];exact M4
  ·exact h'.elim
 case round=>
  intro l vs σ p h ρ w k vs' hr hl hv
  exact h.elim
end
end Go.Ev
end
