/- Proved: parts of the way: BD11, BE5, BF1, BEq29, BF2. -/
import Derived.Test.YtbajncpfmemdgaaGreatDoorEvQ23
set_option linter.unusedVariables false
set_option linter.unusedSimpArgs false
section
namespace Go.Proofs.YtbajncpfmemdgaaGreatDoor
open Go Go.Ev
def Gj:Nat×Nat×Value:=(0,0,.iface 292 (.agg #[.pointer (some ⟨3,179,none⟩)]))
theorem C2 [Env] {P:Program} {f:FuncId} {vs:List V} {xs:List Value} {w:World} (hl:∀q∈Env.laid,w.cell? ⟨q.1,q.2.1,none⟩=some q.2.2) (hv:au (gR w) vs xs) (h:ag P f vs (fun u _=>u=.bool true) Go.Ev.start):Calls P f ⟨xs⟩ w fun e w'=>e=.returned (.bool true)∧RowKit.Below w.heap.size w w':=by
 obtain⟨_,hc⟩:=cj.at h.h (gR w) w xs (xN w hl) hv
 refine callsIn_wide.1 (hc.mono fun e w' hp=>?_)
 obtain⟨v',σ',ρ',x',h1,rfl,h2,h3⟩:=hp
 have h1:v'=.bool true:=h1
 subst h1
 cases h2
 refine⟨rfl,h3.os,h3.tape,h3.output,h3.size,fun k hk=>h3.aJ k hk ?_⟩
 rintro⟨b,k,l,hb,_⟩
 rw[et] at hb
 cases hb
theorem QH:j8 Tryz.prog 12 42=true:=by kernel_rfl
theorem QI:j8 Tryz.prog 12 53=true:=by kernel_rfl
theorem KK [Env] {P:Program} {t:TypeId} {k:Nat} {A:List V→Prop} (hp:j8 P k t=true) (hX:∀ {us:List V},b9 P k t us→∃vs,A vs∧fJ us vs)
  {H:Type} {enc:TypeId×Value→H} {W:World} {cs:List Value} {d:DataW H} {p:List MemPlace} (h:DataW.Trod enc P W 0 (fun _=>true) true t (.agg ⟨cs⟩) d p):∃vs,A vs∧aq (gR W) (.agg vs) (.agg ⟨cs⟩):=by
 obtain⟨fuel,h⟩:=h
 obtain⟨us,h1,h2⟩:=u6 k hp h
 obtain⟨vs,h3,h4⟩:=hX h2
 exact⟨vs,h3,.agg (h4 _ _ h1)⟩
theorem KL [Env] {P:Program} {t:TypeId} {k:Nat} {A:V→Prop} (hp:j8 P k t=true) (hX:∀ {us:List V},b9 P k t us→∃u,A u∧fJ us [u])
  {H:Type} {enc:TypeId×Value→H} {W:World} {v:Value} {d:DataW H} {p:List MemPlace} (hv:v.oneCell'=true) (h:DataW.Trod enc P W 0 (fun _=>true) true t v d p):∃u,A u∧aq (gR W) u v:=by
 obtain⟨fuel,h⟩:=h
 obtain⟨us,h1,h2⟩:=u6 k hp h
 have hc:v.cells.toList=[v]:=by cases v<;>first | rfl | cases hv
 rw[hc] at h1
 obtain⟨u,h3,h4⟩:=hX h2
 cases h4 _ _ h1 with
 | cons h5 h6=>exact⟨u,h3,h5⟩
theorem aaI [Env] {k:Nat} {us:List V} (h:b9 Tryz.prog k 42 us):∃u,(∃l:List aa,(∀t∈l,dY t)∧u=af aa.enc 3 l)∧fJ us [u]:=by
 obtain⟨l,h1,h2⟩:=X42 h
 exact⟨_,⟨l,h1,rfl⟩,h2⟩
theorem aaJ [Env] {k:Nat} {us:List V} (h:b9 Tryz.prog k 53 us):∃vs,(∃c:ak,e7 c∧vs=c.cells)∧fJ us vs:=by
 obtain⟨a,h1,h2⟩:=X53 h
 exact⟨_,⟨a,h1,rfl⟩,h2⟩
end Go.Proofs.YtbajncpfmemdgaaGreatDoor
end
section
namespace Go.Proofs.YtbajncpfmemdgaaGreatDoor
open Go Go.Ev Go.IntWalk
section
variable [Env] [aE] {vs:List V} {σ:St} {k:ah}
def ZT (n:Nat) (v:V):Prop:=v=.int .i64 0∨(v=.int .i64 1∧n≤20)
omit [aE] in
theorem ZT.fY {n:Nat}:∀v,ZT n v→dE v:=fun v h=>by
 rcases h with rfl | ⟨rfl,_⟩
 ·exact dE.int _ _
 ·exact dE.int _ _
theorem QJ (h:Va vs σ k):ag Tryz.prog 27 vs k σ:=by
 obtain⟨l,rfl,h0,h1⟩:=h
 have hc:Go.Ev.Clean (af aa.enc 3 l):=bX l
 refine ag.aU (A:=ZT l.length) (uf hc) ZT.fY ?_ fun v hv=>by
  rcases hv with rfl | ⟨rfl,h⟩
  ·exact h0
  ·exact h1 h
 by_cases hl:l.length≤20
 ·refine F27.cG (live:=qU) (call:=ui) (n₀:=0) (fun h=>qV h) rfl 1 (by kernel_rfl) Nat.lt_wfRel.wf (fun _ ss=>30-cF ss) (J4 aa.enc 3 l) (pD hc) ?_ ?_
  ·rw[JK]
   exact⟨rfl,ae.mk (fun e=>absurd (of_decide_eq_true e) (by omega)) fun _=>⟨0,by omega,by omega,rfl⟩⟩
  ·intro k hk ss hI
   obtain rfl:k=0:=by omega
   obtain⟨i,h0,h1,rfl⟩:=hI
   rw[Yf]
   refine⟨rfl,ae.mk (fun e=>?_) fun _=>.inr ⟨rfl,hl⟩⟩
   have e:=of_decide_eq_true e
   refine⟨⟨h0,e⟩,⟨_,rfl⟩,⟨rfl,.inl rfl⟩,rfl,⟨i+1,by omega,by omega,by rw[i64_in _ (by omega)]⟩,?_⟩
   rw[i64_in _ (by omega),iA,iA]
   show 30-(i+1).toNat<30-i.toNat
   omega
 ·refine F27.cG (live:=qU) (call:=ui) (n₀:=0) (fun h=>qV h) rfl 1 (by kernel_rfl) Nat.lt_wfRel.wf (fun _ _=>0) (fun _ _=>False) (fun _ _ h=>h.elim) ?_ fun _ _ _ h=>h.elim
  rw[JK]
  exact⟨rfl,ae.mk (fun _=>.inl rfl) fun e=>absurd (of_decide_eq_false e) (by omega)⟩
theorem QK:∀ {f:FuncId} {vs:List V} {σ:St} {k:ah},Vb f vs σ k→ag Tryz.prog f vs k σ:=fun h=>aR QJ QG h
end
end Go.Proofs.YtbajncpfmemdgaaGreatDoor
end
section
namespace Go.Proofs.YtbajncpfmemdgaaGreatDoor
open Go Go.Ev Go.IntWalk
def YD (c:aj):List UInt8:=c.f0
theorem C3 {α:Type} [Inhabited α] {nm:α→List UInt8} {l:List α} {s:List UInt8}:cb s (fun i=>nm (l.getD i default)) l.length<0↔∀x∈l,nm x≠s:=by
 rcases gV s (fun i=>nm (l.getD i default)) l.length with ⟨h1,h2⟩ | ⟨i,h1,h2,h3,_⟩
 ·rw[h1]
  refine⟨fun _ t hm=>?_,fun _=>by decide⟩
  obtain⟨i,hi,e⟩:=List.mem_iff_getElem.1 hm
  have:=h2 i hi
  rw[cI hi,e] at this;exact this
 ·rw[h1]
  refine⟨fun h=>by omega,fun h=>absurd ?_ (h l[i] (List.getElem_mem h2))⟩
  rw[←h3,cI h2]
theorem C4 {α:Type} [Inhabited α] {nm:α→List UInt8} {l:List α} {s:List UInt8} (h:0≤cb s (fun i=>nm (l.getD i default)) l.length):∃i:Nat,cb s (fun i=>nm (l.getD i default)) l.length=i∧i<l.length∧nm (l.getD i default)=s:=by
 rcases gV s (fun i=>nm (l.getD i default)) l.length with ⟨h1,_⟩ | ⟨i,h1,h2,h3,_⟩
 ·rw[h1] at h;exact absurd h (by decide)
 ·exact⟨i,h1,h2,h3⟩
theorem C5 {α:Type} [Inhabited α] {nm:α→List UInt8} {l:List α} (h:kp nm l) {i j:Nat} (hi:i<l.length) (hj:j<l.length) (e:nm (l.getD i default)=nm (l.getD j default)):i=j:=by
 rw[cI hi,cI hj] at e
 rcases Nat.lt_trichotomy i j with g | g | g
 ·exact absurd e (List.pairwise_iff_getElem.1 h i j hi hj g)
 ·exact g
 ·exact absurd e.symm (List.pairwise_iff_getElem.1 h j i hj hi g)
theorem QL {α:Type} [Inhabited α] {nm:α→List UInt8} {l:List α} (h:kp nm l) {i:Nat} (hi:i<l.length):cb (nm (l.getD i default)) (fun i=>nm (l.getD i default)) l.length=i:=by
 have h0:0≤cb (nm (l.getD i default)) (fun i=>nm (l.getD i default)) l.length:=Int.not_lt.1 fun g=>C3.1 g _ (bf hi) rfl
 obtain⟨j,h1,h2,h3⟩:=C4 h0
 rw[h1,C5 h h2 hi h3]
theorem q4 {t:aa}:bB t=0↔ve t∧(∀x∈t.f2,bV x=0)∧kp YD t.f2∧∀i,i<t.f1.toNat→(t.f2.getD i default).f2=false:=by
 have hu:gS (fun i=>(t.f2.getD i default).f0) t.f2.length=true↔kp YD t.f2:=by
  rw[pA]
  constructor
  ·intro h
   refine List.pairwise_iff_getElem.2 fun i j hi hj jA=>?_
   have:=h i j jA hj
   rwa [cI hi,cI hj] at this
  ·intro h i j jA hj
   have hi:i<t.f2.length:=by omega
   rw[cI hi,cI hj]
   exact List.pairwise_iff_getElem.1 h i j hi hj jA
 have hn:eO (fun i=>t.f2.getD i default) t.f1.toNat=true↔¬ ∀i,i<t.f1.toNat→(t.f2.getD i default).f2=false:=by
  rw[mH]
  constructor
  ·rintro⟨i,h1,h2⟩ h
   rw[h i h1] at h2;cases h2
  ·intro h
   refine Classical.byContradiction fun g=>h fun i hi=>?_
   cases e:(t.f2.getD i default).f2 with
   | false=>rfl
   | true=>exact absurd ⟨i,hi,e⟩ g
 have hc:cZ (fun i=>bV (t.f2.getD i default)) t.f2.length=0↔∀x∈t.f2,bV x=0:=by
  rw[cm]
  constructor
  ·intro h x hx
   obtain⟨i,hi,e⟩:=List.mem_iff_getElem.1 hx
   have:=h i hi
   rwa [cI hi,e] at this
  ·intro h i hi
   exact h _ (bf hi)
 constructor
 ·intro h
  have hT:=(lI h).1
  rw[hT.err] at h
  by_cases h1:cZ (fun i=>bV (fQ t i)) t.f2.length≠0
  ·rw[if_pos h1] at h;exact absurd h h1
  ·rw[if_neg h1] at h
   by_cases h2:gS (fun i=>(fQ t i).f0) t.f2.length=false
   ·rw[if_pos h2] at h;cases h
   ·rw[if_neg h2] at h
    by_cases h3:eO (fQ t) t.f1.toNat=true
    ·rw[if_pos h3] at h;cases h
    ·exact⟨hT,hc.1 (Decidable.not_not.1 h1),hu.1 (by
      cases e:gS (fun i=>(t.f2.getD i default).f0) t.f2.length with
      | true=>rfl
      | false=>exact absurd e h2),Classical.not_not.1 fun g=>h3 (hn.2 g)⟩
 ·rintro⟨hT,h1,h2,h3⟩
  rw[hT.err,if_neg (fun g=>g (hc.2 h1)),if_neg,if_neg]
  ·exact fun g=>hn.1 g h3
  ·rw[show(fun i=>(fQ t i).f0)=fun i=>(t.f2.getD i default).f0 from rfl,hu.2 h2]
   exact Bool.noConfusion
theorem Al {t:aa} {c:aj} (h:oO t c=0):bV c=0∧(∀x∈t.f2,x.f0≠c.f0)∧t.f2.length<8:=by
 unfold oO at h
 by_cases h1:bV c≠0
 ·rw[if_pos h1] at h;exact absurd h h1
 ·rw[if_neg h1] at h
  by_cases h2:0≤bA t c.f0
  ·rw[if_pos h2] at h;cases h
  ·rw[if_neg h2] at h
   by_cases h3:8≤t.f2.length
   ·rw[if_pos h3] at h;cases h
   ·exact⟨Decidable.not_not.1 h1,C3.1 (Int.not_le.1 h2),by omega⟩
theorem Gk {t:aa} {c:aj} (ht:bB t=0) (h:oO t c=0):bB (kF t c)=0:=by
 obtain⟨⟨a1,a2,a3,a4,a5⟩,b,d,e⟩:=q4.1 ht
 obtain⟨h1,h2,h3⟩:=Al h
 have hl:(kF t c).f2.length=t.f2.length+1:=by show(t.f2++[c]).length=_;simp
 refine q4.2 ⟨⟨a1,by omega,a3,a4,by rw[hl];show t.f1≤_;omega⟩,fun x hx=>?_,?_,fun i hi=>?_⟩
 ·rcases List.mem_append.1 hx with hx | hx
  ·exact b x hx
  ·rw[List.mem_singleton.1 hx];exact h1
 ·refine List.pairwise_append.2 ⟨d,List.pairwise_singleton _ _,fun x hx y hy=>?_⟩
  rw[List.mem_singleton.1 hy];exact h2 x hx
 ·have hi:i<t.f1.toNat:=hi
  have:(kF t c).f2.getD i default=t.f2.getD i default:=by
   show(t.f2++[c]).getD i default=_
   rw[List.getD_eq_getElem?_getD,List.getD_eq_getElem?_getD,List.getElem?_append_left (by omega)]
  rw[this];exact e i hi
theorem Nx {t:aa} {c:aj} (ht:bB t=0) (h:oO t c=0):yc (kF t c) c.f0=0∧yd (kF t c) c.f0=t:=by
 obtain⟨⟨a1,a2,a3,a4,a5⟩,b,d,e⟩:=q4.1 ht
 obtain⟨h1,h2,h3⟩:=Al h
 obtain⟨_,_,d',_⟩:=q4.1 (Gk ht h)
 have hl:(kF t c).f2.length=t.f2.length+1:=by show(t.f2++[c]).length=_;simp
 have hg:(kF t c).f2.getD t.f2.length default=c:=by
  show(t.f2++[c]).getD t.f2.length default=c
  rw[List.getD_eq_getElem?_getD,List.getElem?_append_right (Nat.le_refl _)];simp
 have hR:bA (kF t c) c.f0=t.f2.length:=by
  have:=QL d' (i:=t.f2.length) (by omega)
  rw[hg] at this;exact this
 refine⟨?_,?_⟩
 ·unfold yc
  rw[hR]
  exact if_neg (by show ¬(t.f2.length:Int)<t.f1;omega)
 ·unfold yd
  rw[hR]
  obtain⟨f0,f1,f2⟩:=t
  have key:∀n,n≤f2.length→bp (fun i=>decide ((i:Int)≠(f2.length:Int))) (fun i=>(f2++[c]).getD i default) n=f2.take n:=by
   intro n
   induction n with
   | zero=>intro _;rfl
   | succ n ih=>
    intro hn
    rw[zn (decide_eq_true (by omega)),ih (by omega),take_one (by omega)]
    congr 2
    rw[List.getD_eq_getElem?_getD,List.getD_eq_getElem?_getD,List.getElem?_append_left (by omega)]
  show(⟨f0,f1,bp (fun i=>decide ((i:Int)≠(f2.length:Int))) (fun i=>(f2++[c]).getD i default) (f2++[c]).length⟩:aa)=⟨f0,f1,f2⟩
  rw[List.length_append,List.length_singleton,wO (by simp),key f2.length (Nat.le_refl _),List.take_length]
theorem C6 {l:List aa} (h:fI fm l) {s t:aa} (hs:s∈l) (ht:t∈l) (e:s.f0=t.f0):s=t:=by
 obtain⟨i,hi,rfl⟩:=List.mem_iff_getElem.1 hs
 obtain⟨j,hj,rfl⟩:=List.mem_iff_getElem.1 ht
 have:i=j:=C5 h.apart hi hj (by rw[cI hi,cI hj];exact e)
 subst this;rfl
theorem wX {l:List aa} {s:List UInt8} (h:0≤bh l s):aC l s∈l∧(aC l s).f0=s:=by
 obtain⟨i,h1,h2,h3⟩:=C4 (nm:=fm) h
 have h1:bh l s=i:=h1
 unfold aC
 rw[h1]
 exact⟨bf (by omega),h3⟩
theorem Am {l:List aa} (h:fI fm l) {t:aa} (ht:t∈l):l.Perm (dO l [t.f0] l.length++[t]):=by
 rw[wV]
 have h1:∀x:aa,decide (fk [t.f0] x.f0<0)= !decide (x.f0=t.f0):=fun x=>by
  by_cases e:x.f0=t.f0
  ·rw[decide_eq_true e,decide_eq_false (fun g=>zw.1 g (by rw[e];exact List.mem_singleton.2 rfl))];rfl
  ·rw[decide_eq_false e,decide_eq_true (zw.2 fun g=>e (List.mem_singleton.1 g))];rfl
 rw[show(fun x:aa=>decide (fk [t.f0] x.f0<0))=fun x=> !decide (x.f0=t.f0) from funext h1]
 have h2:l.filter (fun x=>decide (x.f0=t.f0))=[t]:=by
  refine pL fm ?_ (List.Pairwise.sublist List.filter_sublist h) (List.pairwise_singleton _ _)
  refine(List.perm_ext_iff_of_nodup ?_ (List.pairwise_singleton _ _)).2 fun x=>?_
  ·exact List.Pairwise.imp (fun g e=>by rw[e] at g;exact g rfl) (List.Pairwise.sublist List.filter_sublist h.apart)
  ·rw[List.mem_filter,List.mem_singleton]
   exact⟨fun⟨g1,g2⟩=>C6 h g1 ht (of_decide_eq_true g2),fun e=>by subst e;exact⟨ht,decide_eq_true rfl⟩⟩
 have:=List.filter_append_perm (fun x:aa=>decide (x.f0=t.f0)) l
 rw[h2] at this
 exact(this.symm.trans (List.perm_append_comm))
theorem o5 {l:List aa} {c:ak} (h:iq l c=0):cx l c=0∧(jE l c).length≤16∧gW l c=zu l c:=by
 have h0:cx l c=0:=Classical.byContradiction fun g=>g (by rw[CZ g] at h;exact h)
 refine⟨h0,?_,if_pos h⟩
 rw[vr h0] at h
 exact Nat.not_lt.1 fun g=>by rw[if_pos g] at h;cases h
theorem KM {l:List aa} {c:ak} (h:iq l c=0) (hT:∀t∈bZ l c,bB t=0):cr (gW l c)=0:=by
 obtain⟨h0,h1,h2⟩:=o5 h
 obtain⟨_,g2,_⟩:=jR.1 (mo h0).1
 have hp:=pM l c
 rw[h2]
 refine jR.2 ⟨by rw[hp.length_eq];exact h1,fun t ht=>?_,wa h0⟩
 rcases List.mem_append.1 (hp.mem_iff.1 ht) with hm | hm
 ·exact g2 t ((wW l _).subset hm)
 ·exact hT t hm
theorem pN {l:List aa} {s:List UInt8}:ew l [s]=0↔0≤bh l s:=by
 unfold ew
 rw[cm]
 constructor
 ·intro h
  have h:(if bh l s<0 then(9:Int) else 0)=0:=h 0 (Nat.zero_lt_one)
  exact Int.not_lt.1 fun g=>by rw[if_pos g] at h;cases h
 ·intro h i hi
  obtain rfl:=Nat.lt_one_iff.1 hi
  exact if_neg (Int.not_lt.2 h)
theorem Ny {l:List aa} {c d:ak} (h:iq l c=0) (h2:c.f0=2) (d0:d.f0=3) (d1:d.f1=c.f1) (d5:d.f5=c.f8.f0):iq (gW l c) d=0∧gW (gW l c) d=l:=by
 obtain⟨h0,h1,hA⟩:=o5 h
 obtain⟨g1,g2,g3,g4⟩:=mo h0
 obtain⟨a1,a2,a3⟩:=jR.1 g1
 rw[im (by omega)] at g3
 obtain⟨m1,m2⟩:=wX (pN.1 g3)
 rw[Ij h2] at g4
 have hT:bZ l c=[kF (aC l c.f1) c.f8]:=(mq h0).trans (CJ h2 _)
 generalize ht:aC l c.f1=t at *
 have tE:=a2 t m1
 have hM:cr (gW l c)=0:=KM h (by rw[hT];intro x hx;rw[List.mem_singleton.1 hx];exact Gk tE g4)
 have hp:(gW l c).Perm (dO l [t.f0] l.length++[kF t c.f8]):=by
  have:=pM l c
  rw[hA];unfold jE at this;rw[hT,im (by omega),←m2] at this;exact this
 have hr:=(jR.1 hM).2.2
 generalize gW l c=M at *
 have hm:kF t c.f8∈M:=hp.mem_iff.2 (List.mem_append_right _ (List.mem_singleton.2 rfl))
 have hR:0≤bh M d.f1:=Int.not_lt.1 fun g=>Aj.1 g _ hm (by rw[d1,←m2];rfl)
 obtain⟨n1,n2⟩:=wX hR
 have hO:aC M d.f1=kF t c.f8:=C6 hr n1 hm (by rw[n2,d1,←m2];rfl)
 obtain⟨k1,k2⟩:=Nx tE g4
 have hr3:¬(d.f0<1∨6<d.f0):=by omega
 have hS:aQ d=[d.f1]:=im (by omega)
 have hK:kT d (aC M d.f1)=[t]:=by rw[Ik d0,hO,d5,k2]
 have hE:cx M d=0:=by
  rw[iR hM hr3 (by rw[hS];exact pN.2 hR) (by rw[CK d0,hO,d5];exact k1),hK,hS]
  refine oW fun j hj=>?_
  obtain rfl:=Nat.lt_one_iff.1 hj
  rintro⟨_,g⟩
  have g:fk [d.f1] t.f0<0:=g
  exact zw.1 g (by rw[d1,←m2];exact List.mem_singleton.2 rfl)
 have hTd:bZ M d=[t]:=(mq hE).trans hK
 have hK2:(dO M (aQ d) M.length).Perm (dO l [t.f0] l.length):=by
  rw[hS,d1,←m2]
  have q:=Am hr hm
  have q2:=(q.symm.trans hp)
  exact(List.perm_append_right_iff _).1 q2
 have hU:(jE M d).Perm l:=by
  unfold jE
  rw[hTd]
  exact(hK2.append_right _).trans (Am a3 m1).symm
 have hz:iq M d=0:=by
  rw[vr hE]
  exact if_neg (by rw[hU.length_eq];omega)
 refine⟨hz,?_⟩
 rw[(o5 hz).2.2]
 exact pL fm ((pM M d).trans hU) (wa hE) a3
theorem Gl {t:aa} {c:ak} (hk:0≤t.f1):∀n,n≤t.f2.length→(dL t c true n).length+(dL t c false n).length=n+min n t.f1.toNat
 | 0,_=>by unfold dL;show 0+0=0+min 0 _;omega
 | n+1,hn=>by
  have ih:=Gl (c:=c) hk n (by omega)
  have s:∀b,(dL t c b (n+1)).length=(dL t c b n).length+(if jd t c b n=true then 1 else 0):=fun b=>by
   by_cases g:jd t c b n=true
   ·rw[if_pos g];unfold dL;rw[zn g];simp
   ·rw[if_neg g];unfold dL;rw[wO g];rfl
  rw[s true,s false]
  by_cases g:(n:Int)<t.f1
  ·rw[if_pos (oT g),if_pos (oT g)]
   omega
  ·unfold jd
   rw[decide_eq_false g]
   cases named t c n
   ·show _+0+(_+1)=_;omega
   ·show _+1+(_+0)=_;omega
end Go.Proofs.YtbajncpfmemdgaaGreatDoor
end
section
namespace Go.Proofs.YtbajncpfmemdgaaGreatDoor
open Go Go.Ev
def Vn [Env] (vs:List V) (σ:St) (k:ah):Prop:=
 ∃(l:List aa) (c:ak),vs=[af aa.enc 3 l,ak.enc c]∧(e7 c∧c.f7.length≤1000000∧∀t∈l,dY t)∧k (.tuple [af aa.enc 3 (bZ l c),.int .i64 (cx l c)]) σ
def Vo [Env]:=kS 30 Vn Vb
def Vp [Env] (vs:List V) (σ:St) (k:ah):Prop:=
 ∃(l:List aa) (c:ak),bn Go.Ev.start vs [af aa.enc 3 l,ak.enc c]∧(e7 c∧c.f7.length≤1000000∧∀t∈l,dY t)∧k (.tuple [af aa.enc 3 (gW l c),.int .i64 (iq l c)]) σ
def Nz [Env]:=kS 36 Vp Vo
def OS:Nat→List Nat:=(fun _=>[])
theorem e8 [Env] (A:Nat→List SV→Prop) (Q:V→Prop) (l:List aa) (c:ak):WE Tryz.prog 8 Tryz.f8 Nz 0 OS A (fun v _=>Q v) [af aa.enc 3 l,ak.enc c] Go.Ev.start=
  ((∃Vq:List aa,[af aa.enc 3 l]=[af aa.enc 3 Vq]∧((.i64:IntKind)=.i64∧(([]:List V)=[]∧Q (.bool true)))∧(Vq.length≤20→((.i64:IntKind)=.i64∧(∃Vr:ak,[.agg (ak.cells c)]=[ak.enc Vr]∧((.i64:IntKind)=.i64∧(([]:List V)=[]∧Q (.bool true)))∧(Vr.f7.length≤60→((.i64:IntKind)=.i64∧(∃(IH:List aa) (C7:ak),bn Go.Ev.start [af aa.enc 3 l,.agg (ak.cells c)] [af aa.enc 3 IH,ak.enc C7]∧(e7 C7∧C7.f7.length≤1000000∧∀t∈IH,dY t)∧((.i64:IntKind)=.i64∧ae (decide ((iq IH C7)≠(0:Int))) ((([]:List V)=[]∧Q (.bool true))) (((.i64:IntKind)=.i64∧ae (decide (c.f0=(2:Int))) ((∃(II:List aa) (C8:ak),bn Go.Ev.start [af aa.enc 3 ((gW IH C7)),.agg [.int .i64 (3:Int),.str c.f1,.str ([]),.str ([]),.str ([]),.str c.f8.f0,.int .i64 (0:Int),.ai,.str ([]),.int .i64 (0:Int),.bool false,.int .i64 (0:Int),.int .i64 (0:Int),.int .u64 (0:Int),.str ([]),.str ([]),.int .i64 (0:Int),.ai]] [af aa.enc 3 II,ak.enc C8]∧(e7 C8∧C8.f7.length≤1000000∧∀t∈II,dY t)∧((.i64:IntKind)=.i64∧ae (decide ((iq II C8)=(0:Int))) ((∃IJ Vs:List aa,[af aa.enc 3 ((gW II C8)),af aa.enc 3 l]=[af aa.enc 3 IJ,af aa.enc 3 Vs]∧(IJ.length≤1000000∧∀t∈IJ,t.f2.length≤1000000)∧∀IK:Bool,(IK=true↔IJ=Vs)→ae (IK==true) ((([]:List V)=[]∧ae IK (Q (.bool true)) (Q (.bool false)))) (ae IK (Q (.tuple [])) (Q (.bool false))))) (Q (.bool false))))) (((.i64:IntKind)=.i64∧ae (decide (c.f0=(5:Int))) ((∃(o6:List aa) (nu:ak),[af aa.enc 3 l,.agg (ak.cells c)]=[af aa.enc 3 o6,ak.enc nu]∧(e7 nu∧nu.f7.length≤1000000∧∀t∈o6,dY t)∧(∃(kI:List aa) (lT:List UInt8),[af aa.enc 3 l,.str c.f1]=[af aa.enc 3 kI,.str lT]∧kI.length≤1000000∧((.i64:IntKind)=.i64∧ae (decide ((((((bZ o6 nu)).length:Nat):Int))=(2:Int))) (((.i64:IntKind)=.i64∧ae (decide ((bh kI lT)≥(0:Int))) (((0≤(0:Int)∧(0:Int)<((((bZ o6 nu)).length:Nat):Int))∧((0≤(1:Int)∧(1:Int)<((((bZ o6 nu)).length:Nat):Int))∧((0≤(bh kI lT)∧(bh kI lT)<((l.length:Nat):Int))∧((0≤(bh kI lT)∧(bh kI lT)<((l.length:Nat):Int))∧((.i64:IntKind)=.i64∧ae (decide ((IntKind.i64.wrap ((((((((bZ o6 nu)).getD 0 default).f2).length:Nat):Int))+(((((((bZ o6 nu)).getD 1 default).f2).length:Nat):Int))))=(IntKind.i64.wrap ((((((l.getD (bh kI lT).toNat default).f2).length:Nat):Int))+((l.getD (bh kI lT).toNat default).f1))))) (((0≤(0:Int)∧(0:Int)<((((bZ o6 nu)).length:Nat):Int))∧((0≤(bh kI lT)∧(bh kI lT)<((l.length:Nat):Int))∧((.i64:IntKind)=.i64∧ae (decide (((((bZ o6 nu)).getD 0 default).f1)=((l.getD (bh kI lT).toNat default).f1))) (((0≤(1:Int)∧(1:Int)<((((bZ o6 nu)).length:Nat):Int))∧((0≤(bh kI lT)∧(bh kI lT)<((l.length:Nat):Int))∧((.i64:IntKind)=.i64∧ae (decide (((((bZ o6 nu)).getD 1 default).f1)=((l.getD (bh kI lT).toNat default).f1))) ((([]:List V)=[]∧Q (.bool true))) (Q (.bool false)))))) (Q (.bool false)))))) (Q (.bool false)))))))) (Q (.bool false)))) (Q (.bool false)))))) ((([]:List V)=[]∧Q (.bool true)))))))))))))))):=by kernel_rfl
end Go.Proofs.YtbajncpfmemdgaaGreatDoor
end
section
namespace Go.Proofs.YtbajncpfmemdgaaGreatDoor
open Go Go.Ev Go.IntWalk
theorem F8:bS Tryz.prog 8 Tryz.f8:=.of (by kernel_rfl) (by kernel_rfl)
section
variable [Env] [aE] {vs:List V} {σ:St} {k:ah}
theorem QM (h:Vn vs σ k):ag Tryz.prog 30 vs k σ:=CS h
theorem QN:∀ {f:FuncId} {vs:List V} {σ:St} {k:ah},Vo f vs σ k→ag Tryz.prog f vs k σ:=fun h=>aR QM QK h
theorem QO (h:Vp vs σ k):ag Tryz.prog 36 vs k σ:=by
 obtain⟨l,c,hf,hp,hk⟩:=h
 exact ag.aJ hf (Yy hp hk)
theorem QP:∀ {f:FuncId} {vs:List V} {σ:St} {k:ah},Nz f vs σ k→ag Tryz.prog f vs k σ:=fun h=>aR QO QN h
def IL (c:ak):ak:=⟨3,c.f1,[],[],[],c.f8.f0,0,[],⟨[],0,false,⟨0,0,0,[]⟩⟩,⟨[],0,[]⟩⟩
omit [Env] [aE] in
theorem NA (c:ak):e7 (IL c):=⟨⟨⟨by show(0:Int)≤0;decide,by show(0:Int)<18446744073709551616;decide⟩,by show -9223372036854775808≤(0:Int);decide,by show(0:Int)≤9223372036854775807;decide⟩,fun x hx=>by cases hx⟩
omit [Env] [aE] in
theorem QQ {l:List aa} {c:ak} (hl:∀t∈l,dY t) (h:iq l c=0) (hT:∀t∈bZ l c,dY t):∀t∈gW l c,dY t:=fun t ht=>by
 obtain⟨_,_,h2⟩:=o5 h
 rw[h2] at ht
 rcases List.mem_append.1 ((pM l c).mem_iff.1 ht) with hm | hm
 ·exact hl t ((wW l _).subset hm)
 ·exact hT t hm
set_option maxRecDepth 100000 in
theorem S8 (l:List aa) (c:ak) (hl:∀t∈l,dY t) (hc:e7 c):ag Tryz.prog 8 [af aa.enc 3 l,ak.enc c] (fun v _=>v=.bool true) Go.Ev.start:=by
 refine F8.flat (live:=OS) (call:=Nz) (n₀:=0) (fun h=>QP h) rfl (by kernel_rfl) ?_
 rw[e8]
 refine⟨l,rfl,⟨rfl,rfl,rfl⟩,fun Xw=>⟨rfl,c,rfl,⟨rfl,rfl,rfl⟩,fun Yu=>⟨rfl,l,c,aA (bX l) (aA c.aG bm),⟨hc,by omega,hl⟩,rfl,av (fun _=>⟨rfl,rfl⟩) fun hz=>⟨rfl,av (fun h2=>?_) fun _=>⟨rfl,av (fun h5=>?_) fun _=>⟨rfl,rfl⟩⟩⟩⟩⟩⟩
 all_goals
  have hz:iq l c=0:=Decidable.not_not.1 hz
  obtain⟨h0,h1,hA⟩:=o5 hz
  obtain⟨g1,g2,g3,g4⟩:=mo h0
  obtain⟨a1,a2,a3⟩:=jR.1 g1
  rw[im (by omega)] at g3
  obtain⟨m1,m2⟩:=wX (pN.1 g3)
 ·obtain⟨u1,u2⟩:=Ny (d:=IL c) hz h2 rfl rfl rfl
  have dq:∀t∈gW l c,dY t:=QQ hl hz fun t ht=>by
   rw[mq h0,CJ h2] at ht
   rw[List.mem_singleton.1 ht]
   intro x hx
   rcases List.mem_append.1 hx with hx | hx
   ·exact hl _ m1 x hx
   ·rw[List.mem_singleton.1 hx];exact hc.1
  refine⟨gW l c,IL c,.cons (.clean (bX _)) (.cons (.agg (.cons (.int _ _) (.cons (.str _) (.cons (.str _) (.cons (.str _) (.cons (.str _) (.cons (.str _) (.cons (.int _ _) (.cons (.jM (.empty _ _)) (.cons (.str _) (.cons (.int _ _) (.cons (.bool _) (.cons (.int _ _) (.cons (.int _ _) (.cons (.int _ _) (.cons (.str _) (.cons (.str _) (.cons (.int _ _) (.cons (.jM (.empty _ _)) .nil))))))))))))))))))) .nil),⟨NA c,Nat.zero_le _,dq⟩,rfl,av (fun _=>⟨_,l,rfl,?_,fun b hb=>?_⟩) fun g=>absurd u1 g⟩
  ·rw[u2]
   exact⟨by omega,fun t ht=>by have:=(lI (a2 t ht)).1.2.1;omega⟩
  ·obtain rfl:b=true:=hb.2 u2
   exact cB rfl ⟨rfl,cB rfl rfl⟩
 ·have hT:bZ l c=oQ (aC l c.f1) c:=(mq h0).trans (Im h5 _)
  have hp:=pN.1 g3
  have bz:=dx l c.f1
  obtain⟨_,t1,t2,t3,t4⟩:=(q4.1 (a2 _ m1)).1
  have hs:=Gl (t:=aC l c.f1) (c:=c) (by omega) (aC l c.f1).f2.length (Nat.le_refl _)
  refine⟨l,c,rfl,⟨hc,by omega,hl⟩,l,c.f1,rfl,by omega,rfl,?_⟩
  rw[hT]
  have e1:(oQ (aC l c.f1) c).length=2:=rfl
  have e2:((oQ (aC l c.f1) c).getD 0 default).f2=dL (aC l c.f1) c true (aC l c.f1).f2.length:=rfl
  have e3:((oQ (aC l c.f1) c).getD 1 default).f2=dL (aC l c.f1) c false (aC l c.f1).f2.length:=rfl
  have e4:((oQ (aC l c.f1) c).getD 0 default).f1=(aC l c.f1).f1:=rfl
  have e5:((oQ (aC l c.f1) c).getD 1 default).f1=(aC l c.f1).f1:=rfl
  rw[e2,e3,e4,e5,show l.getD (bh l c.f1).toNat default=aC l c.f1 from rfl,e1]
  refine av (fun _=>⟨rfl,av (fun _=>⟨⟨by omega,by omega⟩,⟨by omega,by omega⟩,⟨by omega,by omega⟩,⟨by omega,by omega⟩,rfl,av (fun _=>⟨⟨by omega,by omega⟩,⟨by omega,by omega⟩,rfl,av (fun _=>⟨⟨by omega,by omega⟩,⟨by omega,by omega⟩,rfl,av (fun _=>⟨rfl,rfl⟩) fun g=>absurd rfl g⟩) fun g=>absurd rfl g⟩) fun g=>absurd (congrArg _ ?_) g⟩) fun g=>absurd hp g⟩) fun g=>absurd rfl g
  omega
end
theorem uw {H:Type} {enc:TypeId×Value→H} {W:World} {v0:Value} {c1:List Value} {d0 d1:DataW H} {p0 p1:List MemPlace} (hL:W.cell? ⟨0,0,none⟩=some (.iface 292 (.agg #[.pointer (some ⟨3,179,none⟩)])))
  (h0:v0.oneCell'=true∧DataW.Trod enc Tryz.prog W 0 (fun _=>true) true 42 v0 d0 p0) (h1:DataW.Trod enc Tryz.prog W 0 (fun _=>true) true 53 (.agg ⟨c1⟩) d1 p1):
  Calls Tryz.prog 8 #[v0,.agg ⟨c1⟩] W fun e W'=>e=.returned (.bool true)∧RowKit.Below W.heap.size W W':=by
 letI:Env:=nO [] (fun x hx=>by cases hx) (l:=[Gj])
 letI:aE:=⟨List.mem_singleton.2 rfl⟩
 obtain⟨u0,⟨l,hl,rfl⟩,r0⟩:=KL (k:=12) (A:=fun u=>∃l:List aa,(∀t∈l,dY t)∧u=af aa.enc 3 l) QH (aaI (k:=12)) h0.1 h0.2
 obtain⟨v1,⟨c,hc,rfl⟩,r1⟩:=KK (k:=12) (A:=fun vs=>∃c:ak,e7 c∧vs=c.cells) QI (aaJ (k:=12)) h1
 refine C2 (fun q hq=>?_) (.cons r0 (.cons r1 .nil)) (S8 l c hl hc)
 have hq:q∈[Gj]:=hq
 obtain rfl:=List.mem_singleton.1 hq
 exact hL
end Go.Proofs.YtbajncpfmemdgaaGreatDoor
end
