/- Proved: parts of the way: DrawF, Range, Sound, Tasks. -/
import Derived.Test.YtbajncpfmemdgaaGreatDoorEvQ07
import Derived.Test.YtbajncpfmemdgaaGreatDoorEvQ06
set_option linter.unusedVariables false
set_option linter.unusedSimpArgs false
section
namespace Go.Ev
open Go
section
variable {P:Program} {Rn:Task→St→Run} {ro:Option Nat} {p:Out×St→Prop} {W:List Nat} {base:Nat} {listed:Array Bool} {a':Go.Act} {w:World} {o:Oper}
variable {F:Fence} {bz:Ren} {σ₀:St} {eY:World}
theorem LU [Env] (hg:Good P Rn) {ops:Array Oper} (hp:mu ops.toList W) (hI:Inv P Rn ro F p ops.toList W base bz σ₀ eY listed a' w) {i:Nat} (ho:ops.toList[i]? =some o) (B7:bp o.op=true) (hl:¬cy listed i)
  (hW:∀j,(W.getD i 0).testBit j=true→j<ops.toList.length∧cy listed j) {K:Go.Act→World→Prop} {Q:Exit→Go.Act→World→Prop}
  (hK:∀iP fr,Inv P Rn ro F p ops.toList W base bz σ₀ eY (listed.setIfInBounds i true) iP fr→K iP fr):wpOpIn F 0 P ops Q i K a' w:=by
 obtain⟨D,done,effs,snaps,a,σ,b,aY,ρ,hB,hA,gM,az,bd⟩:=hI
 have bB:=gT ho
 have lN:done.testBit i=false:=by
  cases hd:done.testBit i with
  | false=>rfl
  | true=>exact absurd (hA.lh i hd).2 hl
 obtain⟨D1,it,D2,rfl,rfl⟩:=mv hA.kL i bB lN
 have cS:∀x∈D1,cy listed x.i:=by
  obtain⟨ki,ep,h1,h2,h3,_,_⟩:=wY hA.kL
  obtain⟨o',jF,_,_,h5,_⟩:=cT h1
  rw[ho] at jF;cases jF
  exact fun x hx=>(hW _ ((h5 B7).1 _ (h3 x hx))).2
 obtain⟨dn,aR,bG,gq,pz,_⟩:=J4 hp hB hA cS
 obtain⟨o',jF,lg,lM,WO,_⟩:=cT gq.kL
 rw[ho] at jF;cases jF
 obtain⟨adL,jm⟩:=WO B7
 obtain⟨o',jF,lP⟩:=y6 gq.holds
 rw[ho] at jF;cases jF
 have lL:=xX hp hB (gq.walk (ρ:=ρ)) ho hW
 have Sc:=tD (b:=b) lL gq.sz.symm gq.df lP
 have cq:ρ (base+it.i)=none:=hB.iy _ bB hl
 have hi:ops[it.i]? =some o:=by rw[←Array.getElem?_toList];exact ho
 have Ar:=gq.B8
 have hrm:=gq.room
 have As:R ρ bG w:=hB.rel.sub gq.sub gq.B8
 refine qa hg As cq hB.act gM hi Sc ?_
 rintro LS ky pB WQ LV ⟨Ca,⟨_,lO⟩,hf⟩ Cb cD
 rw[B7] at lO
 obtain⟨xZ,LW,ic⟩:=PM (((List.range ops.toList.length).filter fun j=>listed.getD j true&& !dn.testBit j).map fun j=>base+j) (fun c=>aY.heap.get c) ky
 have cL:∀c,(c∈((List.range ops.toList.length).filter fun j=>listed.getD j true&& !dn.testBit j).map fun j=>base+j)↔∃j,j<ops.toList.length∧cy listed j∧dn.testBit j=false∧c=base+j:=by
  intro c
  simp only[List.mem_map,List.mem_filter,List.mem_range,Bool.and_eq_true,Bool.not_eq_true']
  constructor
  ·rintro⟨j,⟨h1,h2,h3⟩,h4⟩;exact⟨j,h1,h2,h3,h4.symm⟩
  ·rintro⟨j,h1,h2,h3,h4⟩;exact⟨j,⟨h1,h2,h3⟩,h4.symm⟩
 have LX:∀j,j<ops.toList.length→j≠it.i→dn.testBit j=false→ky.heap.get (base+j)=none:=by
  intro j hj bQ hd
  cases hg3:ky.heap.get (base+j) with
  | none=>rfl
  | some k=>
   rcases cD.iM _ _ hg3 with ⟨k',h⟩ | h | h
   ·rw[gq.fresh j hj hd] at h;cases h
   ·omega
   ·exact absurd (by omega) bQ
 have dy:∀j,j<ops.toList.length→cy listed j→dn.testBit j=false→xZ.heap.get (base+j)=aY.heap.get (base+j):=fun j h1 h2 h3=>by
  rw[ic,if_pos ((cL _).2 ⟨j,h1,h2,h3,rfl⟩)]
 have Cd:∀c k l,(∃j,j<ops.toList.length∧cy listed j∧dn.testBit j=false∧c=base+j)→aY.heap.get c=some k→ρ c=some l→¬Wr ρ bG l.c:=by
  rintro c k l ⟨j,h1,h2,h3,rfl⟩ hk cF ⟨c',k',l',h4,_,h5,h6⟩
  have:=hB.rel.inj c' _ _ _ _ _ (gq.sub _ _ h4) hk h5 cF h6
  rw[this,gq.fresh j h1 h3] at h4
  cases h4
 have OK:∀c k,ky.heap.get c=some k→xZ.heap.get c=some k:=by
  intro c k hc
  rw[ic]
  by_cases hm:c∈((List.range ops.toList.length).filter fun j=>listed.getD j true&& !dn.testBit j).map fun j=>base+j
  ·obtain⟨j,h1,h2,h3,rfl⟩:=(cL c).1 hm
   rw[LX j h1 (fun e=>hl (e▸h2)) h3] at hc;cases hc
  ·rw[if_neg hm];exact hc
 have Yi:R pB xZ LV:=by
  refine⟨fun c k hc=>?_,fun c c' k k' l l' h1 h2 g1 g2 e=>?_,fun c hc=>cD.r.fresh c (by rw[←LW];exact hc),cD.r.valid,fun q o x hx=>⟨(cD.r.aL q o x hx).1,?_⟩,cD.r.laid⟩
  ·rw[ic] at hc
   by_cases hm:c∈((List.range ops.toList.length).filter fun j=>listed.getD j true&& !dn.testBit j).map fun j=>base+j
   ·rw[if_pos hm] at hc
    obtain⟨l,cF,dD⟩:=hB.rel.cP c k hc
    exact⟨l,cD.le _ _ cF,dD.same cD.le (cD.aJ _ (hB.rel.valid _ _ cF) (Cd c k l ((cL c).1 hm) hc cF))⟩
   ·rw[if_neg hm] at hc;exact cD.r.cP c k hc
  ·have OL:∀ {c c':Nat} {k k':bV} {l l':Loc},(∃j,j<ops.toList.length∧cy listed j∧dn.testBit j=false∧c=base+j)→aY.heap.get c=some k→ky.heap.get c'=some k'→pB c=some l→pB c'=some l'→l.c=l'.c→False:=by
    intro c c' k k' l l' hm h1 h2 g1 g2 e
    obtain⟨cg,fI,_⟩:=hB.rel.cP c k h1
    have:l=cg:=by rw[cD.le _ _ fI] at g1;exact(Option.some.inj g1).symm
    subst this
    have hv:=hB.rel.valid _ _ fI
    exact Cd c k l hm h1 fI (e▸cD.wr l'.c (e▸hv) ⟨c',k',l',h2,rfl,g2,rfl⟩)
   rw[ic] at h1 h2
   by_cases m1:c∈((List.range ops.toList.length).filter fun j=>listed.getD j true&& !dn.testBit j).map fun j=>base+j
   ·rw[if_pos m1] at h1
    by_cases m2:c'∈((List.range ops.toList.length).filter fun j=>listed.getD j true&& !dn.testBit j).map fun j=>base+j
    ·rw[if_pos m2] at h2
     obtain⟨cg,fI,_⟩:=hB.rel.cP c k h1
     obtain⟨lG,x8,_⟩:=hB.rel.cP c' k' h2
     have e1:l=cg:=by rw[cD.le _ _ fI] at g1;exact(Option.some.inj g1).symm
     have e2:l'=lG:=by rw[cD.le _ _ x8] at g2;exact(Option.some.inj g2).symm
     subst e1 e2
     exact hB.rel.inj _ _ _ _ _ _ h1 h2 fI x8 e
    ·rw[if_neg m2] at h2
     exact(OL ((cL c).1 m1) h1 h2 g1 g2 e).elim
   ·rw[if_neg m1] at h1
    by_cases m2:c'∈((List.range ops.toList.length).filter fun j=>listed.getD j true&& !dn.testBit j).map fun j=>base+j
    ·rw[if_pos m2] at h2
     exact(OL ((cL c').1 m2) h2 h1 g2 g1 e.symm).elim
    ·rw[if_neg m2] at h2
     exact cD.r.inj _ _ _ _ _ _ h1 h2 g1 g2 e
  ·rintro⟨c',k,l,h1,h2,h3,h4⟩
   rw[ic] at h1
   by_cases m1:c'∈((List.range ops.toList.length).filter fun j=>listed.getD j true&& !dn.testBit j).map fun j=>base+j
   ·rw[if_pos m1] at h1
    obtain⟨cg,fI,_⟩:=hB.rel.cP c' k h1
    have e1:l=cg:=by rw[cD.le _ _ fI] at h3;exact(Option.some.inj h3).symm
    subst e1
    subst h4
    rcases cD.gv l.c o x hx with g | g | g
    ·exact(hB.rel.aL _ _ _ g).2 ⟨c',k,l,h1,rfl,fI,rfl⟩
    ·have:=hB.rel.valid _ _ fI;omega
    ·exact Cd c' k l ((cL c').1 m1) h1 fI g
   ·rw[if_neg m1] at h1
    exact(cD.r.aL q o x hx).2 ⟨c',k,l,h1,h2,h3,h4⟩
 have LY:∀c,Wr ρ bG c→Wr ρ aY c:=fun c ⟨c',k,l,h1,h2,h3,h4⟩=>⟨c',k,l,gq.sub _ _ h1,h2,h3,h4⟩
 have WR:bf (fun c=>c=base+it.i) ρ aY w pB xZ LV:=by
  refine⟨Yi,cD.le,by rw[LW,←Ar];exact cD.next,fun c l hc=>by rw[←Ar];exact cD.iy c l hc,cD.size,cD.os,cD.tape,cD.output,fun c hc hn=>cD.aJ c hc fun h=>hn (LY c h),?_,fun c k hc=>?_,fun c o x hx=>(cD.gv c o x hx).imp id (Or.imp id (LY c))⟩
  ·rintro c hc ⟨c',k,l,h1,h2,h3,h4⟩
   rw[ic] at h1
   by_cases m1:c'∈((List.range ops.toList.length).filter fun j=>listed.getD j true&& !dn.testBit j).map fun j=>base+j
   ·rw[if_pos m1] at h1
    obtain⟨cg,fI,_⟩:=hB.rel.cP c' k h1
    have e1:l=cg:=by rw[cD.le _ _ fI] at h3;exact(Option.some.inj h3).symm
    subst e1
    exact⟨c',k,l,h1,rfl,fI,h4⟩
   ·rw[if_neg m1] at h1
    exact LY c (cD.wr c hc ⟨c',k,l,h1,h2,h3,h4⟩)
  ·rw[ic] at hc
   by_cases m1:c∈((List.range ops.toList.length).filter fun j=>listed.getD j true&& !dn.testBit j).map fun j=>base+j
   ·rw[if_pos m1] at hc;exact .inl ⟨k,hc⟩
   ·rw[if_neg m1] at hc
    rcases cD.iM c k hc with ⟨k',h⟩ | h | h
    ·exact .inl ⟨k',gq.sub _ _ h⟩
    ·exact .inr (.inl (by rw[←Ar];exact h))
    ·exact .inr (.inr h)
 have wu:∀ {j},cy (listed.setIfInBounds it.i true) j↔cy listed j∨j=it.i:=cy.set (by omega)
 have tG:∀ {j},(Nat.lor dn (2^it.i)).testBit j=false→dn.testBit j=false∧it.i≠j:=by
  intro j hj
  rw[dw] at hj
  simpa using hj
 have x9:∀ {j},dn.testBit j=false→done.testBit j=false:=by
  intro j hj
  cases hd:done.testBit j with
  | false=>rfl
  | true=>rw[gq.mono.1 j hd] at hj;cases hj
 refine hK WQ LV ⟨D2,Nat.lor dn (2^it.i),it.i::effs,ky::snaps,Ca,ky,LS,xZ,pB,⟨?_,?_,Yi,Cb,⟨_,rfl⟩,by simp [hB.len],OK,?_,?_,?_⟩,⟨jm,lO,⟨fun _ h=>h,(oP gq.mono lM).2⟩,?_,by rw[hf.sa,hf.sb];exact gq.sz,hf.d,LW.symm,Nat.le_trans gq.room cD.next,OK,?_,?_⟩,gM.mono cD.le,
  az.trans (WR.weaken fun c hc=>by rw[hc];exact Nat.le_add_right _ _),by simpa using bd⟩
 ·intro j hj c8 k hk
  rcases wu.1 c8 with c8 | rfl
  ·exact⟨(hB.closed j hj c8 k hk).1,wu.2 (.inl (hB.closed j hj c8 k hk).2)⟩
  ·exact⟨(hW k hk).1,wu.2 (.inl (hW k hk).2)⟩
 ·intro j oj hj c8 gU
  obtain⟨h1,h2⟩:=tG gU
  exact hB.ne j oj hj ((wu.1 c8).resolve_right fun e=>h2 e.symm) (x9 h1)
 ·intro j hj gU
  obtain⟨h1,h2⟩:=tG gU
  exact LX j hj (fun e=>h2 e.symm) h1
 ·intro j hj c8
  cases hr:pB (base+j) with
  | none=>rfl
  | some l=>
   rcases cD.iy _ _ hr with h | h | h
   ·rw[hB.iy j hj fun h=>c8 (wu.2 (.inl h))] at h;cases h
   ·omega
   ·exact absurd (wu.2 (.inr (by omega))) c8
 ·intro j oj hj c8 gU
  obtain⟨h1,h2⟩:=tG gU
  have c8:=(wu.1 c8).resolve_right fun e=>h2 e.symm
  have EE:=gT hj
  have Cc:=hB.ne j oj hj c8 (x9 h1)
  have OM:(W.getD j 0).testBit it.i=false:=by
   cases hw:(W.getD j 0).testBit it.i with
   | false=>rfl
   | true=>exact absurd (hB.closed j EE c8 _ hw).2 hl
  obtain⟨u,hu,B6⟩:=hB.LP j oj hj c8 (x9 h1)
  have pA:∀t∈looks ops.toList oj,LS.tmps.get t=b.tmps.get t:=by
   intro t ht
   refine hf.Hm t fun hd=>?_
   rcases(hp.data _ _ _ _ _ hj ho hd ht).2 with h | ⟨_,h⟩
   ·rw[OM] at h;cases h
   ·rw[lM j h] at h1;cases h1
  refine⟨u,fun t ht=>?_,?_⟩
  ·rw[hf.Hm t fun hd=>h2 (hp.R7 _ _ _ _ _ ho hj hd ht)]
   exact hu t ht
  ·rw[dy j EE c8 h1]
   rcases B6 with h | h | ⟨r1,r2,q,τ,r3,r4,r5,r6⟩
   ·
    obtain⟨E1,itj,E2,hE,jH⟩:=mv jm j EE gU
    rw[hE] at jm
    obtain⟨adN,ep,q1,_,_,_,q5⟩:=wY jm
    obtain⟨oj',Sd,_,_,_,q6⟩:=cT q1
    rw[jH,hj] at Sd;cases Sd
    obtain⟨q7,q8,_⟩:=q6 Cc
    have An:itj.back≠0:=by
     intro e0
     unfold s8 at q7
     rw[e0,List.drop_zero,jH] at q7
     cases ep with
     | nil=>
      have ON:(W.getD j 0).testBit it.i=true:=q7
      rw[OM] at ON;cases ON
     | cons f ep=>
      have ON:(W.getD j 0).testBit f=true:=q7
      obtain⟨r1,of,r2,r3⟩:=q5 f List.mem_cons_self
      obtain⟨r4,r5⟩:=tG r1
      have:=hB.ne f of r2 (hB.closed j EE c8 f ON).2 (x9 r4)
      rw[r3] at this;cases this
    have Ey:(aY.kill (base+j)).heap.get (base+j)=none:=by rw[gZ,if_pos rfl]
    by_cases hr:rA P oj.op=true
    ·have e1:=B3 hr h
     have gS:aY.heap.get (base+j)=none:=vg Ey e1
     obtain⟨r,gw⟩:=hB.head
     refine .inr (.inr ⟨hr,gS,1,σ,by rw[gw];rfl,Nat.le_refl _,fun f EF=>?_,fun u' hJ hh=>?_⟩)
     ·have:f=it.i:=by simpa using EF
      rw[this];exact OM
     ·rw[jG pA] at hh
      have e2:=B3 hr hh
      rw[e2] at hh
      have wo:=hB.fresh j EE (x9 h1)
      have:=zd (κ:=none) Cc hB.act wo hh (B5 hB.sub wo)
      rw[h] at this
      exact((Prod.mk.inj (bA.ok.inj this)).1).symm
    ·have ZO:dZ P oj.op=false:=by
      rcases q8 with h | h | h
      ·exact absurd h An
      ·exact absurd h hr
      ·exact h
     obtain⟨v',wk,he,cS⟩:=BZ (P:=P) (id:=base+j) (ops:=ops.toList) (a:=b) Cc ZO (wX hr) (aY.kill (base+j)) (fun r=>r=(u,(aY.kill (base+j)).ext (base+j) (aY.heap.get (base+j)))) (by rw[h];exact rfl)
     have e1:v'=u:=(Prod.mk.inj he).1
     have e2:wk=aY.heap.get (base+j):=vg Ey (Prod.mk.inj he).2
     subst e1
     exact .inr (.inl fun σ'=>by rw[jG pA,cS,e2])
   ·exact .inr (.inl fun σ'=>by rw[jG pA];exact h σ')
   ·refine .inr (.inr ⟨r1,r2,q+1,τ,r3,by omega,fun f EF=>?_,fun u' hJ hh=>r6 u' hJ (by rw[←jG pA];exact hh)⟩)
    rw[List.take_succ_cons] at EF
    rcases List.mem_cons.1 EF with rfl | EF
    ·exact OM
    ·exact r5 f EF
 ·intro j hj
  rw[dw] at hj
  simp only[Bool.or_eq_true,decide_eq_true_eq] at hj
  rcases hj with hj | rfl
  ·exact⟨(gq.lh j hj).1,wu.2 (.inl (gq.lh j hj).2)⟩
  ·exact⟨bB,wu.2 (.inr rfl)⟩
 ·intro j hj gU
  obtain⟨h1,h2⟩:=tG gU
  exact LX j hj (fun e=>h2 e.symm) h1
 ·intro t ht
  by_cases hd:o.dst=some t
  ·exact hf.at_ t hd
  ·rw[hf.OE t hd,hf.Hm t hd]
   refine gq.agree t fun j oj hj c8 gU=>?_
   by_cases e:it.i=j
   ·subst e;exact absurd c8 hl
   ·exact ht j oj hj (wu.2 (.inl c8)) (by rw[dw,gU];simp [e])
theorem Au [Env] {L:List Oper} (hp:mu L W) (hb:base=σ₀.next) (hI:Inv P Rn ro F p L W base bz σ₀ eY listed a' w) (cS:∀i,i<L.length→cy listed i):bJ p bz σ₀ eY .normal a' w:=by
 obtain⟨D,done,effs,snaps,a,σ,b,aY,ρ,hB,hA,gM,az,bd⟩:=hI
 have hlD:∀x∈D,cy listed x.i:=by
  intro x hx
  obtain⟨D1,D2,rfl⟩:=List.append_of_mem hx
  obtain⟨_,_,h1,_⟩:=wY hA.kL
  obtain⟨o,ho,_⟩:=cT h1
  exact cS _ (gT ho)
 have hA':Aq P Rn ro p L W base listed done effs snaps b aY (D++[]) done a σ:=by rw[List.append_nil];exact hA
 obtain⟨dn,aR,bG,gq,_,_⟩:=J4 hp hB hA' hlD
 have ze:p (.exit .normal aR,bG):=gq.holds
 have lg:∀j,j<L.length→dn.testBit j=true:=by
  have h':(List.range L.length).all dn.testBit=true:=gq.kL
  exact fun j hj=>List.all_eq_true.1 h' j (List.mem_range.2 hj)
 have fE:∀t,aR.tmps.get t=b.tmps.get t:=fun t=>gq.agree t fun j oj hj _ hd=>by rw[lg j (gT hj)] at hd;cases hd
 have lJ:=az.sub gq.sub gq.B8
 refine⟨.normal,aR,bG,ρ,ze,rfl,⟨fun t v hv=>hB.act.tmps t v (by rw[←fE];exact hv),by rw[gq.sz];exact hB.act.size,by rw[gq.df];exact hB.act.defers⟩,?_⟩
 refine⟨lJ.r,lJ.le,lJ.next,fun c l hc=>?_,lJ.size,lJ.os,lJ.tape,lJ.output,lJ.aJ,lJ.wr,fun c k hc=>?_,lJ.gv⟩
 ·rcases lJ.iy c l hc with h | h | h
  ·exact .inl h
  ·exact .inr (.inl h)
  ·exact .inr (.inl (by rw[←hb];exact h))
 ·rcases lJ.iM c k hc with h | h | h
  ·exact .inl h
  ·exact .inr (.inl h)
  ·exact .inr (.inl (by rw[←hb];exact h))
theorem Hq [Env] {L:List Oper}:∀ {D:List Item} {dn:Nat} {ef:List Nat},dt P L W dn ef D=true→(∀j,dn.testBit j=true→j<L.length∧cy listed j)→
  (∀i,i<L.length→cy listed i)∨∃i o,L[i]? =some o∧¬cy listed i∧∀j,(W.getD i 0).testBit j=true→j<L.length∧cy listed j:=by
 intro D
 induction D with
 | nil=>
  intro dn ef h lg
  have h':(List.range L.length).all dn.testBit=true:=h
  exact .inl fun i hi=>(lg i (List.all_eq_true.1 h' i (List.mem_range.2 hi))).2
 | cons it D ih=>
  intro dn ef h lg
  obtain⟨o,ho,_,lM,h1,h2⟩:=cT h
  by_cases hl:cy listed it.i
  ·have Se:∀j,(Nat.lor dn (2^it.i)).testBit j=true→j<L.length∧cy listed j:=by
    intro j hj
    rw[dw] at hj
    simp only[Bool.or_eq_true,decide_eq_true_eq] at hj
    rcases hj with hj | rfl
    ·exact lg j hj
    ·exact⟨gT ho,hl⟩
   cases he:bp o.op with
   | true=>exact ih (h1 he).2 Se
   | false=>exact ih (h2 he).2.2 Se
  ·exact .inr ⟨it.i,o,ho,hl,fun j hj=>lg j (lM j hj)⟩
def Ce (n:Nat) (listed:Array Bool):Nat:=(List.range n).countP fun i=> !listed.getD i true
theorem PO [Env] {n i:Nat} (hi:i<n) (hs:listed.size=n) (hl:¬cy listed i):Ce n (listed.setIfInBounds i true)<Ce n listed:=by
 unfold Ce
 have hle:∀(l:List Nat),l.countP (fun j=> !(listed.setIfInBounds i true).getD j true)+(if i∈l then 1 else 0)≤l.countP fun j=> !listed.getD j true:=by
  intro l
  induction l with
  | nil=>simp
  | cons x l ih=>
   rw[List.countP_cons,List.countP_cons]
   have hx:cy (listed.setIfInBounds i true) x↔cy listed x∨x=i:=cy.set (by omega)
   by_cases e:x=i
   ·subst e
    have h1:(listed.setIfInBounds x true).getD x true=true:=hx.2 (.inr rfl)
    have h2:listed.getD x true=false:=by
     cases hq:listed.getD x true with
     | false=>rfl
     | true=>exact absurd hq hl
    rw[h1,h2]
    simp only[List.mem_cons,true_or,if_true,Bool.not_true,Bool.false_eq_true,if_false,Bool.not_false]
    have:(if x∈l then 1 else 0)≤1:=by split<;>omega
    omega
   ·have h1:(listed.setIfInBounds i true).getD x true=listed.getD x true:=by
     cases hq:listed.getD x true with
     | true=>exact hx.2 (.inl hq)
     | false=>
      cases iA:(listed.setIfInBounds i true).getD x true with
      | false=>rfl
      | true=>
       rcases hx.1 iA with h | h
       ·have h':listed.getD x true=true:=h
        rw[hq] at h';cases h'
       ·exact absurd h e
    have bQ:¬i=x:=fun h=>e h.symm
    rw[h1]
    simp only[List.mem_cons,bQ,false_or]
    omega
 have:=hle (List.range n)
 rw[if_pos (List.mem_range.2 hi)] at this
 omega
theorem J5 [Env] (hg:Good P Rn) {ops:Array Oper} (hp:mu ops.toList W) (hb:base=σ₀.next):∀(fuel:Nat) {listed:Array Bool} {a':Go.Act} {w:World},Inv P Rn ro F p ops.toList W base bz σ₀ eY listed a' w→Ce ops.toList.length listed≤fuel→
  wpAnyIn F 0 P .any ops (bJ p bz σ₀ eY) fuel listed a' w:=by
 have Hr:∀ {listed:Array Bool} {i:Nat},i∈Region.ready .any ops listed↔listed.getD i true=false∧∃o,ops[i]? =some o∧∀e∈o.after,Region.binds .any e=true→listed.getD e.on false=true:=mem_ready
 have OO:∀ {listed:Array Bool} {j:Nat},listed.size=ops.toList.length→(listed.getD j false=true↔j<ops.toList.length∧cy listed j):=by
  intro listed j hs
  unfold cy
  rw[Array.getD_eq_getD_getElem?,Array.getD_eq_getD_getElem?]
  by_cases hj:j<listed.size
  ·have h1:j<ops.toList.length:=by rw[←hs];exact hj
   rw[Array.getElem?_eq_getElem hj]
   exact⟨fun h=>⟨h1,h⟩,fun h=>h.2⟩
  ·rw[Array.getElem?_eq_none (by omega)]
   exact⟨fun h=>(by cases h),fun h=>absurd h.1 (by rw[←hs];exact hj)⟩
 have Sf:∀ {listed:Array Bool} {a':Go.Act} {w:World},Inv P Rn ro F p ops.toList W base bz σ₀ eY listed a' w→Region.ready .any ops listed=[]→∀i,i<ops.toList.length→cy listed i:=by
  intro listed a' w hI rM
  obtain⟨D,done,effs,snaps,a,σ,b,aY,ρ,hB,hA,gM,az,bd⟩:=hI
  rcases Hq hA.kL hA.lh with h | ⟨i,o,ho,hl,hW⟩
  ·exact h
  ·have:i∈Region.ready .any ops listed:=by
    refine Hr.2 ⟨?_,o,by rw[←Array.getElem?_toList];exact ho,fun e he Cf=>?_⟩
    ·cases hq:listed.getD i true with
     | false=>rfl
     | true=>exact absurd hq hl
    ·refine(OO bd).2 (hW _ ?_)
     rw[hp.wait i o ho]
     exact xW.2 ⟨e,he,Cf,.inl rfl⟩
   rw[rM] at this;cases this
 intro fuel
 induction fuel with
 | zero=>
  intro listed a' w hI hf
  have cS:∀i,i<ops.toList.length→cy listed i:=by
   intro i hi
   cases hq:listed.getD i true with
   | true=>exact hq
   | false=>
    have:0<Ce ops.toList.length listed:=by
     unfold Ce
     exact List.countP_pos_iff.2 ⟨i,List.mem_range.2 hi,by rw[hq];rfl⟩
    omega
  refine⟨?_,Au hp hb hI cS⟩
  rw[List.eq_nil_iff_forall_not_mem]
  intro i hi
  obtain⟨h1,o,ho,_⟩:=Hr.1 hi
  have:cy listed i:=cS i (gT (by rw[Array.getElem?_toList];exact ho))
  unfold cy at this
  rw[h1] at this;cases this
 | succ fuel ih=>
  intro listed a' w hI hf
  refine⟨fun rM=>Au hp hb hI (Sf hI rM),fun i hi=>?_⟩
  obtain⟨h1,o,ho,hed⟩:=Hr.1 hi
  have OP:ops.toList[i]? =some o:=by rw[Array.getElem?_toList];exact ho
  have hl:¬cy listed i:=by unfold cy;rw[h1];simp
  obtain⟨D,done,effs,snaps,a,σ,b,aY,ρ,hB,hA,gM,az,bd⟩:=id hI
  have hW:∀j,(W.getD i 0).testBit j=true→j<ops.toList.length∧cy listed j:=by
   intro j hj
   rw[hp.wait i o OP] at hj
   obtain⟨e,he,Cf,Sg⟩:=xW.1 hj
   have:=(OO bd).1 (hed e he Cf)
   rcases Sg with rfl | Sg
   ·exact this
   ·exact hB.closed _ this.1 this.2 j Sg
  have hK:∀iP fr,Inv P Rn ro F p ops.toList W base bz σ₀ eY (listed.setIfInBounds i true) iP fr→wpAnyIn F 0 P .any ops (bJ p bz σ₀ eY) fuel (listed.setIfInBounds i true) iP fr:=by
   intro iP fr hI'
   have:=PO (gT OP) bd hl
   exact ih hI' (by omega)
  cases he:bp o.op with
  | true=>exact LU hg hp hI OP he hl hW hK
  | false=>exact PN hg hp hI OP he hl hW hK
theorem D5 [Env] (hg:Good P Rn) (ji:P.follows .mixedOrders=true) {ρ:Ren} {σ:St} (hr:R ρ σ w) {a:Act} {a':Go.Act} (ha:bC ρ a a') (bt:fN ρ ro F) {id:Nat} {ops:Array Oper} {p:Out×St→Prop}
  (h:((u9 P ops.toList true).f Rn ro a σ).Holds p):(Code.region id ops true).wpIn F 0 P (bJ p ρ σ w) a' w:=by
 refine wpIn_region_any ji ?_
 unfold u9 at h
 dsimp only at h
 split at h
 ·rename_i l hl
  obtain⟨W,hp,jm⟩:=D3 hl
  have hn:(ahead (len ops.toList) σ).next=σ.next+ops.toList.length:=by obtain⟨hh,m⟩:=σ;rw[bc];rfl
  have hh:∀c,(ahead (len ops.toList) σ).heap.get c=σ.heap.get c:=by intro c;obtain⟨hh,m⟩:=σ;rfl
  have LZ:∀i,i<ops.toList.length→¬cy (Array.replicate ops.size false) i:=by
   intro i hi hl
   unfold cy at hl
   rw[Array.getD_eq_getD_getElem?] at hl
   simp at hi
   simp [hi] at hl
  have nr:∀i,i<ops.toList.length→ρ (σ.next+i)=none:=fun i _=>hr.fresh _ (Nat.le_add_right _ _)
  have gw:R ρ (ahead (len ops.toList) σ) {w with drawn:=w.drawn+1}:=
   ⟨fun c k hc=>by rw[hh] at hc;exact(hr.congr (w':={w with drawn:=w.drawn+1}) rfl).cP c k hc,fun c c' k k' l l' h1 h2=>by rw[hh] at h1 h2;exact hr.inj c c' k k' l l' h1 h2,fun c hc=>hr.fresh c (by rw[hn] at hc;omega),hr.valid,
    fun c o x hx=>⟨(hr.aL c o x hx).1,fun⟨c',k,l,h1,h2,h3,h4⟩=>(hr.aL c o x hx).2 ⟨c',k,l,by rw[←hh];exact h1,h2,h3,h4⟩⟩,hr.laid⟩
  refine J5 (base:=σ.next) hg hp rfl ops.size ⟨l,0,[],[_],a,_,a,_,ρ,⟨?_,?_,gw,ha,⟨[],rfl⟩,rfl,fun _ _ h=>h,?_,?_,?_⟩,⟨jm,h,⟨fun _ h=>h,fun j k hj _=>by simp at hj⟩,fun i hi=>by simp at hi,rfl,rfl,rfl,by rw[hn];exact Nat.le_refl _,fun _ _ h=>h,?_,fun _ _=>rfl⟩,bt,?_,by simp⟩ ?_
  ·intro i hi hl;exact absurd hl (LZ i hi)
  ·intro i o ho hl;exact absurd hl (LZ i (gT ho))
  ·intro i hi _;rw[hh];exact hr.nG (nr i hi)
  ·intro i hi _;exact nr i hi
  ·intro i o ho hl;exact absurd hl (LZ i (gT ho))
  ·intro i hi _;rw[hh];exact hr.nG (nr i hi)
  ·exact⟨gw,Ren.le.refl ρ,by rw[hn];omega,fun _ _ h=>.inl h,Nat.le_refl _,rfl,rfl,rfl,fun _ _ _=>rfl,fun c _ ⟨c',k,l,h1,h2,h3,h4⟩=>⟨c',k,l,by rw[←hh];exact h1,h2,h3,h4⟩,fun c k hc=>.inl ⟨k,by rw[←hh];exact hc⟩,fun _ _ _ h=>.inl h⟩
  ·have:=List.countP_le_length (p:=fun i=> !(Array.replicate ops.size false).getD i true) (l:=List.range ops.toList.length)
   simpa [Ce] using this
 ·exact h.elim
end
end Go.Ev
end
section
namespace Go.Ev
open Go
section
variable {P:Program} {ρ:Ren} {σ:St} {w:World} {Rn:Task→St→Run} {F:Fence} {ro:Option Nat}
theorem bf.drop [Env] {ids:Nat→Prop} (h:R ρ σ w) {b:Nat} {k:bV} {l:Loc} (hk:σ.heap.get b=some k) (hl:ρ b=some l) (BF:k.rG=true)
  {w':World} (bd:w'.heap.size=w.heap.size) (oH:∀c,c≠l.c→w'.heap[c]? =w.heap[c]?) (ho:w'.os=w.os) (ht:w'.tape=w.tape) (hp:w'.output=w.output):
  bf ids ρ σ w ρ (σ.kill b) w':=by
 have key:∀b' k,(σ.kill b).heap.get b'=some k→b'≠b∧σ.heap.get b'=some k:=by
  intro b' k bq
  rw[k6,Trie.bP] at bq
  by_cases e:b'=b
  ·rw[if_pos e] at bq;cases bq
  ·rw[if_neg e] at bq;exact⟨e,bq⟩
 have lF:∀c,c<w.heap.size→¬Wr ρ σ c→w'.heap[c]? =w.heap[c]? :=fun c hc hn=>oH c fun e=>hn ⟨b,k,l,hk,BF,hl,e.symm⟩
 have k7:∀c,c<w.heap.size→Wr ρ (σ.kill b) c→Wr ρ σ c:=by
  rintro c hc ⟨b',k₁,l',h1,h2,h3,h4⟩
  exact⟨b',k₁,l',(key _ _ h1).2,h2,h3,h4⟩
 refine⟨⟨fun b' k₁ bq=>?_,fun cQ cR k₁ k₂ cg lG h1 h2=>h.inj cQ cR k₁ k₂ cg lG (key _ _ h1).2 (key _ _ h2).2,fun b' bq=>h.fresh b' (by simpa using bq),fun b' l' bq=>by rw[bd];exact h.valid b' l' bq,h.qI rfl lF k7,h.laid⟩,
  Ren.le.refl ρ,by simp,fun _ _ h=>.inl h,by omega,ho,ht,hp,lF,k7,fun b' k h=>.inl ⟨k,(key b' k h).2⟩,fun _ _ _ h=>.inl h⟩
 ·obtain⟨bQ,Sh⟩:=key _ _ bq
  obtain⟨l',cF,ed⟩:=h.cP b' k₁ Sh
  exact⟨l',cF,ed.same (Ren.le.refl ρ) (oH _ fun ec=>bQ (h.inj b' b _ _ _ _ Sh hk cF hl ec))⟩
theorem R.loop [Env] (hr:R ρ σ w) {l:Nat} {st:LoopState} {BE:Option Code} {fn:FuncId} {t:bF V} {size d:Nat} {ps:List Tmp} {aef bo:Code} (hb:σ.heap.get l=some (.loop st BE fn t size ps aef bo d)) {k:Loc} (hl:ρ l=some k):
  ∃JA t' ld,w.heap[k.c]? =some (.loop {state:=st,pending:=BE,fn:=JA,tmps:=t',params:=⟨ps⟩,assign:=aef,body:=bo,defers:=ld.c})∧iL ρ t t'∧size=t'.size∧ρ d=some ld:=by
 obtain⟨k',ed,hblk⟩:=hr.cP _ _ hb
 rw[hl] at ed;cases ed
 cases hblk with
 | loop h ht hs hd=>exact⟨_,_,_,h,ht,hs,hd⟩
end
end Go.Ev
end
section
namespace Go.Ev
open Go
section
variable {P:Program} {ρ:Ren} {σ:St} {w:World} {Rn:Task→St→Run} {F:Fence} {ro:Option Nat}
theorem tH [Env] {q p:Out×St→Prop} {K:Go.Act→World→Prop} {e:Exit} {a':Go.Act} {w':World} (h:bJ q ρ σ w e a' w')
  (hn:∀a σ' ρ',q (.exit .normal a,σ')→bC ρ' a a'→bf pw ρ σ w ρ' σ' w'→K a' w')
  (he:∀x a σ',x≠.normal→q (.exit x a,σ')→p (.exit x a,σ')):Exit.then K (bJ p ρ σ w) e a' w':=by
 obtain⟨x,a,σ',ρ',h1,rfl,h3,h4⟩:=h
 cases x with
 | normal=>exact hn _ _ _ h1 h3 h4
 | exit i=>exact⟨_,_,_,_,he _ _ _ (by simp) h1,rfl,h3,h4⟩
 | goto i=>exact⟨_,_,_,_,he _ _ _ (by simp) h1,rfl,h3,h4⟩
 | ret=>exact⟨_,_,_,_,he _ _ _ (by simp) h1,rfl,h3,h4⟩
theorem oQ {x:Code} {Q:Exit→Go.Act→World→Prop} {a:Go.Act} {w:World}
  (h:x.wpIn F 0 P (Exit.then (fun a' w'=>jD F P x Q a' w') Q) a w):(Code.loop x).wpIn F 0 P Q a w∧jD F P x Q a w:=by
 have key:∀(b:Frame) (k:List Go.Item) (cs:List Frame),b.roundOf=F.round→F.fn b.fn→F.room (cs.length+1+0)→
   ∃e a' w',Q e a' w'∧ArrivesIn (Machine.fenced P F) P (lone (b.atR a (.code x::.inLoop x::k)) cs w) b k cs e a' w':=by
  intro b k cs gM hb hr
  obtain⟨e,aZ,bg,hq,gE⟩:=h b (.inLoop x::k) cs gM hb hr
  cases e with
  | normal=>
   obtain⟨L0,aR,fr,Hs,zg⟩:=hq b k cs gM hb hr
   exact⟨L0,aR,fr,Hs,.of_steps gE zg⟩
  | exit id=>exact⟨_,aZ,bg,hq,.pass (x:=.inLoop x) rfl (fun _ _=>.inl (by simp)) gE⟩
  | goto l=>exact⟨_,aZ,bg,hq,.pass (x:=.inLoop x) rfl (fun _ _=>.inl (by simp)) gE⟩
  | ret=>exact⟨_,aZ,bg,hq,.pass (x:=.inLoop x) rfl (fun _ _=>.inl (by simp)) gE⟩
  | panic ch=>exact⟨_,aZ,bg,hq,.pass (x:=.inLoop x) rfl (fun _ _=>.inl (by simp)) gE⟩
  | outgrown=>exact⟨_,aZ,bg,hq,.pass (x:=.inLoop x) rfl (fun _ _=>.inl (by simp)) gE⟩
 constructor
 ·intro b k cs gM hb hr
  obtain⟨e,a',w',hq,gE⟩:=key b k cs gM hb hr
  exact⟨e,a',w',hq,.of_steps (.one (fenced_calm hb hr rfl) stepR_loop) gE⟩
 ·intro b k cs gM hb hr
  obtain⟨e,a',w',hq,gE⟩:=key b k cs gM hb hr
  exact⟨e,a',w',hq,.of_steps (.one (fenced_calm hb hr rfl) stepR_inLoop) gE⟩
theorem D6 {b:Frame} {a:Go.Act} {k:List Go.Item} {cs:List Frame} {c:Code}:Go.step P (lone (b.atR a (.code (.scope c)::k)) cs w)=.next (lone (b.atR a (.code c::.inScope c::k)) cs w):=
 step_lone_go (by simp [stepG,stepG.exec,Frame.atR])
theorem A8 {b:Frame} {a:Go.Act} {k:List Go.Item} {cs:List Frame} {c:Code}:Go.step P (lone (b.atR a (.inScope c::k)) cs w)=.next (lone (b.atR a k) cs w):=
 step_lone_go (by simp [stepG,stepG.exec,Frame.atR])
theorem sR [Env] {x:Code} {Q:Exit→Go.Act→World→Prop} {a:Go.Act} {w:World} (h:lf F P x x Q a w):(Code.scope x).wpIn F 0 P Q a w:=by
 intro b k cs gM hb hr
 obtain⟨e,a',w',hq,gE⟩:=h b k cs gM hb hr
 exact⟨e,a',w',hq,.of_steps (.one (fenced_calm hb hr rfl) D6) gE⟩
theorem ya [Env] {x cur:Code} {Q:Exit→Go.Act→World→Prop} {a:Go.Act} {w:World}
  (h:cur.wpIn F 0 P (fun e a' w'=>match e with
   | .goto l=>(∀rest,findLabel x l=some rest→lf F P x rest Q a' w')∧(findLabel x l=none→Q (.goto l) a' w')
   | e=>Q e a' w') a w):lf F P x cur Q a w:=by
 intro b k cs gM hb hr
 obtain⟨e,aZ,bg,hq,gE⟩:=h b (.inScope x::k) cs gM hb hr
 cases e with
 | normal=>exact⟨.normal,aZ,bg,hq,StepsIn.trans gE (.one (fenced_calm hb hr rfl) A8)⟩
 | exit id=>
  have hx:exitTo id (.inScope x::k)=exitTo id k:=by simp [exitTo]
  exact⟨.exit id,aZ,bg,hq,fun k' hk=>gE.1 k' (by rw[hx];exact hk),fun gw hk=>gE.2 gw (by rw[hx];exact hk)⟩
 | goto l=>
  cases hf:findLabel x l with
  | some rest=>
   have hs:=gE.1 (.code rest::.inScope x::k) (by simp [gotoIn,hf])
   obtain⟨L0,aR,fr,Hs,zg⟩:=hq.1 rest hf b k cs gM hb hr
   exact⟨L0,aR,fr,Hs,.of_steps hs zg⟩
  | none=>
   have hx:gotoIn l (.inScope x::k)=gotoIn l k:=by simp [gotoIn,hf]
   exact⟨.goto l,aZ,bg,hq.2 hf,fun k' hk=>gE.1 k' (by rw[hx];exact hk),fun gw hk=>gE.2 gw (by rw[hx];exact hk)⟩
 | ret=>exact⟨_,aZ,bg,hq,gE⟩
 | panic ch=>exact⟨_,aZ,bg,hq,gE⟩
 | outgrown=>exact⟨_,aZ,bg,hq,gE⟩
theorem LeavesInM.mono {n:Nat} {fn:Func} {tmps:Array Value} {Q Q':Ending→World→Prop}:∀ {ds:List Deferred} {u:FrameMode} {w:World},LeavesInM F n P fn tmps Q ds u w→(∀e w,Q e w→Q' e w)→LeavesInM F n P fn tmps Q' ds u w:=by
 intro ds
 induction ds with
 | nil=>
  intro u w h hq
  cases u with
  | run=>exact h.elim
  | returning=>obtain⟨v,h1,h2⟩:=h;exact⟨v,h1,hq _ _ h2⟩
  | panicking c=>exact hq _ _ h
 | cons d ds ih=>
  intro u w h hq
  obtain⟨h1,h2⟩:=h
  refine⟨h1,h2.imp ?_ ?_⟩
  ·rintro⟨r,w',a,b,c⟩;exact⟨r,w',a,b,ih c hq⟩
  ·rintro⟨a,fv,cap,f,args,b,c,d,e⟩
   refine⟨a,fv,cap,f,args,b,c,d,e.mono fun e u' w' h=>?_⟩
   cases e with
   | returned v=>exact ih h hq
   | panicked c=>exact ih h hq
   | outgrown=>exact hq _ _ h
theorem qc [Env] (hg:Good P Rn) (ji:P.follows .mixedOrders=true) {fn:FuncId}:∀(c:Code) {a:Act} {σ:St} {p:Out×St→Prop},((iK P fn c).f Rn ro a σ).Holds p→
  ∀ {ρ:Ren} {w:World} {a':Go.Act},R ρ σ w→bC ρ a a'→fN ρ ro F→c.wpIn F 0 P (bJ p ρ σ w) a' w∧∀x,c=.loop x→jD F P x (bJ p ρ σ w) a' w:=by
 intro c
 induction c with
 | skip=>
  intro a σ p h ρ w a' hr ha bt
  exact⟨wpIn_skip ⟨.normal,_,_,_,h,rfl,ha,bf.refl hr⟩,fun _ e=>by cases e⟩
 | label l=>
  intro a σ p h ρ w a' hr ha bt
  exact⟨wpIn_label ⟨.normal,_,_,_,h,rfl,ha,bf.refl hr⟩,fun _ e=>by cases e⟩
 | exit i=>
  intro a σ p h ρ w a' hr ha bt
  exact⟨wpIn_exit ⟨.exit i,_,_,_,h,rfl,ha,bf.refl hr⟩,fun _ e=>by cases e⟩
 | goto l=>
  intro a σ p h ρ w a' hr ha bt
  exact⟨wpIn_goto ⟨.goto l,_,_,_,h,rfl,ha,bf.refl hr⟩,fun _ e=>by cases e⟩
 | ret=>
  intro a σ p h ρ w a' hr ha bt
  exact⟨wpIn_ret ⟨.ret,_,_,_,h,rfl,ha,bf.refl hr⟩,fun _ e=>by cases e⟩
 | seq x y ihx Si=>
  intro a σ p h ρ w a' hr ha bt
  refine⟨wpIn_seq (wpIn_mono (ihx (bA.Holds.bind h) hr ha bt).1 fun e aZ bg fe=>?_),fun _ e=>by cases e⟩
  refine tH fe (fun a σ' ρ' hq Sj az=>?_) (fun x a σ' hx hq=>?_)
  ·exact wpIn_mono (Si hq az.r Sj (bt.mono az.le)).1 fun _ _ _ hp=>bJ.trans az hp
  ·cases x<;>first | exact absurd rfl hx | exact hq
 | cond x y z Si ihz=>
  intro a σ p h ρ w a' hr ha bt
  refine⟨?_,fun _ e=>by cases e⟩
  have h':(Bc ((iK P fn y).f Rn ro) ((iK P fn z).f Rn ro) a σ (a.eval x)).Holds p:=h
  unfold Bc at h'
  split at h'
  ·rename_i hx;exact wpIn_cond_true ((ha.eval x hx).qN) (Si h' hr ha bt).1
  ·rename_i hx;exact wpIn_cond_false ((ha.eval x hx).qN) (ihz h' hr ha bt).1
  ·exact h'.elim
 | block id x ih=>
  intro a σ p h ρ w a' hr ha bt
  refine⟨wpIn_block (wpIn_mono (ih (bA.Holds.bind h) hr ha bt).1 fun e aZ bg fe=>?_),fun _ e=>by cases e⟩
  obtain⟨e,b,σ',ρ',h1,rfl,h3,h4⟩:=fe
  cases e with
  | normal=>exact⟨.normal,_,_,_,h1,rfl,h3,h4⟩
  | exit i=>
   have fM:p (.exit (if i=id then .normal else .exit i) b,σ'):=h1
   by_cases hi:i=id
   ·simp only[qO,Exit.inBlock,hi,if_true]
    rw[if_pos hi] at fM
    exact⟨.normal,_,_,_,fM,rfl,h3,h4⟩
   ·simp only[qO,Exit.inBlock,hi,if_false]
    rw[if_neg hi] at fM
    exact⟨.exit i,_,_,_,fM,rfl,h3,h4⟩
  | goto l=>exact⟨.goto l,_,_,_,h1,rfl,h3,h4⟩
  | ret=>exact⟨.ret,_,_,_,h1,rfl,h3,h4⟩
 | loop x ih=>
  intro a σ p h ρ w a' hr ha bt
  refine⟨hg.code h hr ha bt,fun y e=>?_⟩
  cases e
  exact hg.loop h hr ha bt
 | region id ops draw=>
  intro a σ p h ρ w a' hr ha bt
  refine⟨?_,fun _ e=>by cases e⟩
  cases draw with
  | false=>exact BU hg hr ha bt h
  | true=>exact D5 hg ji hr ha bt h
 | rangeFunc f ps aef bo _ _=>
  intro a σ p h ρ w a' hr ha bt
  exact h.elim
 | scope x ih=>
  intro a σ p h ρ w a' hr ha bt
  exact⟨sR (hg.inScope h hr ha bt),fun _ e=>by cases e⟩
 | refuse u=>
  intro a σ p h ρ w a' hr ha bt
  exact h.elim
theorem D7 [Env] (hg:Good P Rn) (ji:P.follows .mixedOrders=true) {fn:FuncId} {x:Code} {a:Act} {σ:St} {p:Out×St→Prop} (h:(((iK P fn x).f Rn ro a σ).bind (LA fun a σ=>Rn (.code ro fn (.loop x) a) σ)).Holds p)
  {ρ:Ren} {w:World} {a':Go.Act} (hr:R ρ σ w) (ha:bC ρ a a') (bt:fN ρ ro F):(Code.loop x).wpIn F 0 P (bJ p ρ σ w) a' w∧jD F P x (bJ p ρ σ w) a' w:=by
 refine oQ (wpIn_mono (qc hg ji x (bA.Holds.bind h) hr ha bt).1 fun e aZ bg fe=>?_)
 refine tH fe (fun a σ' ρ' hq Sj az=>?_) (fun x a σ' hx hq=>?_)
 ·exact(hg.loop hq az.r Sj (bt.mono az.le)).mono fun _ _ _ hp=>bJ.trans az hp
 ·cases x<;>first | exact absurd rfl hx | exact hq
theorem qQ [Env] (hg:Good P Rn) (ji:P.follows .mixedOrders=true) {fn:FuncId} (c:Code) {a:Act} {σ:St} {p:Out×St→Prop} (h:(wT P Rn ro fn a σ c).Holds p) {ρ:Ren} {w:World} {a':Go.Act} (hr:R ρ σ w) (ha:bC ρ a a') (bt:fN ρ ro F):
  c.wpIn F 0 P (bJ p ρ σ w) a' w∧∀x,c=.loop x→jD F P x (bJ p ρ σ w) a' w:=by
 by_cases hl:∃x,c=.loop x
 ·obtain⟨x,rfl⟩:=hl
  obtain⟨h1,h2⟩:=D7 hg ji h hr ha bt
  exact⟨h1,fun y e=>by cases e;exact h2⟩
 ·refine qc (fn:=fn) hg ji c (a:=a) ?_ hr ha bt
  cases c<;>first
   | exact absurd ⟨_,rfl⟩ hl
   | exact h
end
end Go.Ev
end
section
namespace Go.Ev
open Go
section
variable {P:Program} {ρ:Ren} {σ:St} {w:World} {Rn:Task→St→Run}
theorem Av [Env] {vs:List V} {vs':List Value} (h:au ρ vs vs') (n:Nat):bC ρ (lC n vs) {tmps:=⟨vs'⟩++Array.replicate (n-(⟨vs'⟩:Array Value).size) undef,defers:=[]}:=by
 have hl:=h.length
 refine⟨fun i v hv=>?_,?_,.nil⟩
 ·have mf:(bF.G1 vs (bF.blank n) 0).get i=some v:=hv
  rw[bF.Ly] at mf
  have hi:vs[i]? =some v:=by
   split at mf
   ·simpa using mf
   ·rw[bF.Jv] at mf;cases mf
  obtain⟨x,hx,aO⟩:=h.get i hi
  refine⟨x,?_,aO⟩
  have bB:i<vs'.length:=(List.getElem?_eq_some_iff.1 hx).1
  show((⟨vs'⟩:Array Value)++_)[i]? =_
  rw[Array.getElem?_append_left (by simpa using bB)]
  simpa using hx
 ·show max n (len vs)=_
  rw[bc]
  simp
  omega
theorem Cg [Env] (hr:R ρ σ w) {a:Act} {a':Go.Act} (ha:bC ρ a a'):∀(rs:List ResultVar) {l:List V},eW P a σ rs=some l→
  ∃l':List Value,(rs.mapM fun r=>(match r with
   | .tmp t=>pure (a'.tmps.getD t undef)
   | .cell x t=>do loadVar t (←asAddr (a'.tmps.getD x undef)):Sem Value)).run P w=.ok l' w∧au ρ l l':=by
 intro rs
 induction rs with
 | nil=>intro l h;cases h;exact⟨[],rfl,.nil⟩
 | cons r rs ih=>
  intro l h
  have fE:∀ {t:Tmp} {v:V},a.tmps.get t=some v→aq ρ v (a'.tmps.getD t undef):=by
   intro t v hv
   obtain⟨x,hx,aO⟩:=ha.tmps t v hv
   rw[Array.getD_eq_getD_getElem?,hx]
   exact aO
  cases r with
  | tmp t=>
   unfold eW at h
   split at h
   ·rename_i v cg hv hl
    cases h
    obtain⟨l',aI,aO⟩:=ih hl
    refine⟨a'.tmps.getD t undef::l',?_,.cons (fE hv) aO⟩
    rw[List.mapM_cons]
    simp only[Sem.run_bind,Sem.run_pure,Result.andThen_ok,aI]
   ·cases h
  | cell x t=>
   unfold eW at h
   split at h
   ·rename_i v cg hv hl
    rw[Option.map_eq_some_iff] at h
    obtain⟨u,hu,rfl⟩:=h
    obtain⟨l',aI,aO⟩:=ih hl
    obtain⟨u',_,WS,ad,had,xQ⟩:=Ah (P:=P) hr (fE hv) hu
    refine⟨u'::l',?_,.cons WS aO⟩
    rw[List.mapM_cons]
    dsimp only
    have hA:(asAddr (.pointer (some ad))).run P w=.ok ad w:=rfl
    rw[had]
    simp only[Sem.run_bind,hA,Result.andThen_ok,Sem.run_pure,xQ,aI]
   ·cases h
theorem A9 [Env] (hr:R ρ σ w) {a:Act} {a':Go.Act} (ha:bC ρ a a') {fn:Func} {l:List V} (h:eW P a σ fn.results.toList=some l):
  ∃v',(results fn a'.tmps).run P w=.ok v' w∧aq ρ (rC l) v':=by
 obtain⟨l',aI,aO⟩:=Cg (P:=P) hr ha _ h
 refine⟨if hh:(⟨l'⟩:Array Value).size=1 then(⟨l'⟩:Array Value)[0] else .tuple ⟨l'⟩,?_,?_⟩
 ·unfold results
  rw[Sem.run_bind,Array.mapM_eq_mapM_toList,Sem.run_map]
  exact congrArg (fun r:Result (List Value)=>((r.andThen fun a w'=>Result.ok a.toArray w').andThen fun a w'=>Sem.run P (pure (if h:a.size=1 then a[0] else Value.tuple a)) w')) aI
 ·cases aO with
  | nil=>exact .tuple .nil
  | cons h1 h2=>cases h2 with
   | nil=>exact h1
   | cons h3 h4=>
    rw[dif_neg (by simp)]
    exact .tuple (.cons h1 (.cons h3 h4))
theorem oR {f:FuncId} {fn:Func} {c:Code} (hf:P.funcs[f]? =some fn) (hb:fn.body=some c) (hn:(fn.name== "runtime.NumGoroutine")=false) (args:Array Value):(callFunc f args).run P w=.ok (.enter f args) w:=by
 have xS:(program).run P w=.ok P w:=rfl
 simp only[callFunc,Sem.run_bind,xS,Result.andThen_ok,hf,hn,Bool.false_eq_true,if_false,hb,Option.isNone_some,Sem.run_pure]
theorem zh [Env] {f:FuncId} {fn:Func} {args:List V} {K:Out×St→Run} {p:Out×St→Prop} (h:(rE Rn f fn args σ K fn.body).Holds p):
  ∃c,fn.body=some c∧(fn.name== "runtime.NumGoroutine")=false∧(Rn (.code none f c (lC fn.ntmps args)) σ).Holds fun x=>(K x).Holds p:=by
 unfold rE at h
 split at h
 ·rename_i c hb
  split at h
  ·exact h.elim
  ·rename_i hn
   exact⟨c,hb,hn,h.bind⟩
 ·exact h.elim
theorem Aw [Env] (ji:P.follows .mixedOrders=true) (hg:Good P Rn):Good P (step P Rn):=by
 constructor
 case code=>
  intro ro fn c a σ p h ρ w a' F hr ha bt
  exact(qQ hg ji c h hr ha bt).1
 case loop=>
  intro ro fn x a σ p h ρ w a' F hr ha bt
  exact(qQ hg ji (.loop x) h hr ha bt).2 x rfl
 case inScope=>
  intro ro fn x cur a σ p h ρ w a' F hr ha bt
  refine ya (wpIn_mono (qc hg ji cur (bA.Holds.bind h) hr ha bt).1 fun e aZ bg fe=>?_)
  obtain⟨e,b,σ',ρ',h1,rfl,h3,h4⟩:=fe
  cases e with
  | normal=>exact⟨.normal,_,_,_,h1,rfl,h3,h4⟩
  | exit i=>exact⟨.exit i,_,_,_,h1,rfl,h3,h4⟩
  | ret=>exact⟨.ret,_,_,_,h1,rfl,h3,h4⟩
  | goto l=>
   have fM:(match findLabel x l with
    | some rest=>Rn (.inScope ro fn x rest b) σ'
    | none=>.ok (.exit (.goto l) b,σ'):Run).Holds p:=h1
   refine⟨fun rest hf=>?_,fun hf=>?_⟩
   ·rw[hf] at fM
    exact(hg.inScope fM h4.r h3 (bt.mono h4.le)).mono fun _ _ _ hp=>bJ.trans h4 hp
   ·rw[hf] at fM
    exact⟨.goto l,_,_,_,fM,rfl,h3,h4⟩
 case call=>
  intro f vs σ p h ρ w vs' hr hv
  have h':(nq Rn f vs σ P.funcs[f]?).Holds p:=h
  unfold nq at h'
  split at h'
  ·rename_i fn hf
   obtain⟨c,hb,hn,hc⟩:=zh h'
   refine⟨oR hf hb hn _,callsIn_of_wp_marks hf hb trivial (wpIn_mono (hg.code hc hr (Av hv fn.ntmps) rfl) fun e aZ bg fe=>?_)⟩
   obtain⟨e,b,σ',ρ',h1,rfl,h3,h4⟩:=fe
   have fin:(Rn (.leave fn b) σ').Holds p→LeavesInM Fence.wide 0 P fn aZ.tmps (cE p ρ σ w) aZ.defers .returning bg:=by
    intro h
    exact LeavesInM.mono (hg.leave h h4.r h3) fun e w' hv=>cE.trans h4 hv
   cases e with
   | normal=>exact fin h1
   | ret=>exact fin h1
   | exit i=>exact bA.Holds.tu h1
   | goto l=>exact bA.Holds.tu h1
  ·exact h'.elim
 case deferred=>
  intro f vs σ p h ρ w vs' hr hv
  exact(show False from h).elim
 case leave=>
  intro fn a σ p h ρ w a' hr ha
  have h':(pk P Rn fn a σ a.defers).Holds p:=h
  have Sk:=ha.defers
  unfold pk at h'
  split at h'
  ·rename_i hd
   rw[hd] at Sk
   have EA:a'.defers=[]:=by
    generalize a'.defers=l at Sk
    cases Sk;rfl
   rw[EA]
   unfold yT at h'
   split at h'
   ·rename_i l hl
    obtain⟨v',aI,aO⟩:=A9 hr ha hl
    exact⟨v',aI,_,_,ρ,v',h',rfl,aO,bf.refl hr⟩
   ·exact h'.elim
  ·exact h'.elim
 case apply=>
  intro f vs σ p h ρ w f' vs' hr hf hv
  have h':(td Rn vs σ f).Holds p:=h
  unfold td at h'
  split at h'
  ·rename_i g first captured
   cases hf with
   | func Sl hx hy=>
    rename_i JA x' y'
    have ZP:JA=.func g:=by cases Sl with | same _=>rfl
    subst ZP
    obtain⟨JT,e9⟩:=hg.call h' hr (vs':=x'++(vs'++y')) (by rw[gI,gI];exact hx.append (hv.append hy))
    refine⟨{target:=.fn (.func g) ⟨y'⟩,args:=⟨x'⟩++⟨vs'⟩},rfl,.inl ⟨g,⟨x'++(vs'++y')⟩,?_,e9⟩⟩
    have e1:((⟨x'⟩++⟨vs'⟩:Array Value)++⟨y'⟩)=⟨x'++(vs'++y')⟩:=by simp
    simp only[invoke]
    rw[e1];exact JT
  ·exact h'.elim
 case round=>
  intro l vs σ p h ρ w k vs' hr hl hv
  exact h.elim
end
end Go.Ev
end
