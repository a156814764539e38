/- Proved: parts of the way: BD7, BEq24, BEq25, BD8. -/
import Derived.Test.YtbajncpfmemdgaaGreatDoorEvQ24
set_option linter.unusedVariables false
set_option linter.unusedSimpArgs false
section
namespace Go.Proofs.YtbajncpfmemdgaaGreatDoor
open Go Go.Ev Go.IntWalk
theorem cp {l:List ae} (h:cn l=0):l.length≤16∧∀t∈l,bK t=0:=by
 by_cases h1:l.length>16
 ·rw[td h1] at h;cases h
 refine⟨by omega,fun t ht=>?_⟩
 have h2:dy (fun i=>bK (l.getD i default)) l.length=0:=Classical.byContradiction fun h3=>by
  unfold cn at h
  rw[if_neg h1,if_pos h3] at h
  exact h3 h
 obtain⟨i,hi,rfl⟩:=List.getElem_of_mem ht
 have:=(cu _ _).1 h2 i hi
 rwa [gR hi] at this
theorem oY {l:List ae} {c:an} (h:cn l≠0):cK l c=cn l:=if_pos h
theorem CV {l:List ae} {c:an} (h:cn l=0) (h2:c.f0<1∨6<c.f0):cK l c=1:=(if_neg fun g=>g h).trans (if_pos h2)
theorem qB {l:List ae} {c:an} (h:cn l=0) (h2:¬(c.f0<1∨6<c.f0)) (h3:fc l (aN c)≠0):cK l c=fc l (aN c):=((if_neg fun g=>g h).trans (if_neg h2)).trans (if_pos h3)
theorem qC {l:List ae} {c:an} (h:cn l=0) (h2:¬(c.f0<1∨6<c.f0)) (h3:fc l (aN c)=0) (h4:kE c (aA l c.f1) (aA l c.f2)≠0):cK l c=kE c (aA l c.f1) (aA l c.f2):=
 (((if_neg fun g=>g h).trans (if_neg h2)).trans (if_neg fun g=>g h3)).trans (if_pos h4)
theorem iQ {l:List ae} {c:an} (h:cn l=0) (h2:¬(c.f0<1∨6<c.f0)) (h3:fc l (aN c)=0) (h4:kE c (aA l c.f1) (aA l c.f2)=0):cK l c=TR l (aN c) (kT c (aA l c.f1)):=
 (((if_neg fun g=>g h).trans (if_neg h2)).trans (if_neg fun g=>g h3)).trans (if_neg fun g=>g h4)
def mC (l:List ae) (ss:List (List UInt8)) (i:Nat):Prop:=aM l (ss.getD i default)<0
theorem kp {l:List ae} {ss:List (List UInt8)} {i:Nat} (hi:i<ss.length) (h:mC l ss i) (hj:∀j,j<i→¬mC l ss j):fc l ss=9:=by
 have h9:(if aM l (ss.getD i default)<0 then(9:Int) else 0)=9:=if_pos h
 have:=jg (fun i=>if aM l (ss.getD i default)<0 then(9:Int) else 0) ss.length i hi (fun g=>by rw[h9] at g;cases g) fun j gK=>if_neg (hj j gK)
 exact this.trans h9
theorem np {l:List ae} {ss:List (List UInt8)} (hj:∀j,j<ss.length→¬mC l ss j):fc l ss=0:=(cu _ _).2 fun j h=>if_neg (hj j h)
def oq (l:List ae) (ss:List (List UInt8)) (o:List ae) (i:Nat):Prop:=0≤aM l (o.getD i default).f0∧gP ss (o.getD i default).f0<0
theorem nq {l o:List ae} {ss:List (List UInt8)} {i:Nat} (hi:i<o.length) (h:oq l ss o i) (hj:∀j,j<i→¬oq l ss o j):TR l ss o=12:=by
 have h9:(if 0≤aM l (o.getD i default).f0∧gP ss (o.getD i default).f0<0 then(12:Int) else 0)=12:=if_pos h
 have:=jg (fun i=>if 0≤aM l (o.getD i default).f0∧gP ss (o.getD i default).f0<0 then(12:Int) else 0) o.length i hi (fun g=>by rw[h9] at g;cases g) fun j gK=>if_neg (hj j gK)
 exact this.trans h9
theorem pP {l o:List ae} {ss:List (List UInt8)} (hj:∀j,j<o.length→¬oq l ss o j):TR l ss o=0:=(cu _ _).2 fun j h=>if_neg (hj j h)
theorem pQ {l:List ae} {c:an} (hr:¬(c.f0<1∨6<c.f0)) (hj:∀j,j<(aN c).length→¬mC l (aN c) j):(c.f0≠1→0≤aM l c.f1)∧(c.f0=6→0≤aM l c.f2):=by
 refine⟨fun h=>?_,fun h=>?_⟩
 ·by_cases h6:c.f0=6
  ·have:=hj 0 (by rw[pL h6];exact Nat.zero_lt_succ _)
   unfold mC at this
   rw[pL h6] at this
   exact Int.not_lt.1 this
  ·have hs:=k5 (c:=c) (by omega)
   have:=hj 0 (by rw[hs];exact Nat.zero_lt_succ _)
   unfold mC at this
   rw[hs] at this
   exact Int.not_lt.1 this
 ·have:=hj 1 (by rw[pL h];exact Nat.le_refl _)
  unfold mC at this
  rw[pL h] at this
  exact Int.not_lt.1 this
theorem xX (c:an):(aN c).length≤2:=by
 unfold aN
 split
 ·exact Nat.le_refl 2
 ·split
  ·exact Nat.le_succ 1
  ·exact Nat.zero_le _
section
variable [Env] {σ:St} {k:ai}
omit [Env] in
theorem acz {E:Int} {T:List ae} (h1:E=0→k (.tuple [af ae.enc 3 T,.int .i64 0]) σ) (h2:E≠0→∀q:List ae,k (.tuple [af ae.enc 3 q,.int .i64 E]) σ) {e:Int} {q:List ae} (he:E=e) (hq:e=0→q=T):k (.tuple [af ae.enc 3 q,.int .i64 e]) σ:=by
 subst he
 by_cases h:E=0
 ·rw[hq h,h];exact h1 h
 ·exact h2 h q
variable [aL] {vs:List V}
set_option maxRecDepth 100000 in
theorem aaM (h:W75 vs σ k):ag Tryz.prog 75 vs k σ:=by
 obtain⟨l,c,rfl,⟨hc,hr,hP,ake,ht,TV,hf2⟩,hk1,hk2⟩:=h
 refine ag.aV (ar (bE l) (ar c.aE aG)) (F75.cd (live:=Oz) (call:=CU) (fun h=>FI h) (by kernel_rfl) ?_)
 have lf:∀ {e:Int} {q:List ae},kE c (aA l c.f1) (aA l c.f2)=e→(e=0→q=kT c (aA l c.f1))→k (.tuple [af ae.enc 3 q,.int .i64 e]) σ:=fun he hq=>acz hk1 hk2 he hq
 have b1:=dd l c.f1
 have tl:∀t∈l,t.f2.length≤1000:=fun t h=>by have:=(kY (ht t h).2).1;obtain⟨_,h1,_⟩:=this;omega
 rw[e75]
 refine⟨rfl,aq (fun a1=>⟨c.f9,rfl,dV.eX hc.2,cB (by simp [V.beq,V.gS,ae.cells,af]) (aK.hR (.cons (nk (by rfl)) (.cons (.int _ _) .nil)) (lf (xU a1 _ _) fun _=>(A8 a1 _).symm))⟩) fun a1=>⟨rfl,aq (fun a6=>⟨l,c,rfl,⟨by omega,TV a1,hf2 a6,tl⟩,aK.hR (.cons (.clean (bE _)) (.cons (.int _ _) .nil)) (lf (aaq a6 _ _) fun h=>?_)⟩) fun a6=>?_⟩⟩
 ·exact(if_pos h).trans (Mc a6 _).symm
 have b2:=TV a1
 have hm:aA l c.f1∈l:=bm (by omega)
 obtain⟨n4,uf⟩:=ht _ hm
 have hlen:0<(aA l c.f1).f2.length∧(aA l c.f1).f2.length≤8∧1≤(aA l c.f1).f1:=by have:=(kY uf).1;obtain⟨_,h1,h2,_⟩:=this;omega
 refine⟨l,c.f1,rfl,by omega,⟨b2,b1.2⟩,rfl,aq (fun a5=>⟨aA l c.f1,c,rfl,⟨hP,hlen.2.2,hlen.1,by omega⟩,aK.hR (.cons (.clean (bE _)) (.cons (.int _ _) .nil)) (lf (Fv a5 _ _) fun h=>?_)⟩) fun a5=>⟨rfl,aq (fun a2=>⟨aA l c.f1,c.f8,rfl,⟨hc.1.1,hlen.1,by omega⟩,aK.hR (.cons (nk (t:=vD (aA l c.f1) c.f8) (by rfl)) (.cons (.int _ _) .nil)) (lf (L6 a2 _ _) fun h=>?_)⟩) fun a2=>
  ⟨rfl,aq (fun a4=>⟨aA l c.f1,c.f5,c.f6,rfl,⟨n4,hlen.2.2,hlen.1,by omega⟩,aK.hR (.cons (nk (t:=vE (aA l c.f1) c.f5 c.f6) (by rfl)) (.cons (.int _ _) .nil)) (lf (L9 a4 _ _) fun h=>?_)⟩) fun a4=>?_⟩⟩⟩
 ·exact(if_pos h).trans (Mb a5 _).symm
 ·have e':vD (aA l c.f1) c.f8=AZ (aA l c.f1) c.f8:=if_pos h
  rw[e'];exact(L7 a2 _).symm
 ·have e':vE (aA l c.f1) c.f5 c.f6=vB (aA l c.f1) c.f5 c.f6:=if_pos h
  rw[e'];exact(Ma a4 _).symm
 have a3:c.f0=3:=by omega
 have hca:=pM (aA l c.f1) c.f5
 refine⟨aA l c.f1,c.f5,rfl,by omega,rfl,aq (fun a7=>aK.hR vJ (lf ((A9 a3 _ _).trans (if_pos a7)) fun h=>by cases h)) fun a7=>⟨(aA l c.f1).f2,_,rfl,by omega,fun h=>?_,fun n f hn hrc=>?_⟩⟩
 ·have a7:¬az (aA l c.f1) c.f5<(aA l c.f1).f1:=a7
  exact(rT (decide_eq_true (by omega)) _ hlen.1 h).elim
 ·have a7:¬az (aA l c.f1) c.f5<(aA l c.f1).f1:=a7
  obtain⟨rfl,k1⟩:=hrc
  exact aK.hR (us:=[af ae.enc 3 [wK (aA l c.f1) c.f5],.int .i64 0]) (.cons (.jT (.slice (es:=[ae.enc (wK (aA l c.f1) c.f5)]) (by rfl) (.cons (.str _) (.cons (.int _ _) (.cons (.own (g:=fun i=>ak.enc ((wK (aA l c.f1) c.f5).f2.getD i default)) (p:=false) (by rfl) (fun i hi=>by rw[k1 i hi];exact fO (ak.clean _)) fun i hi=>rfl) .nil)))
   (fun v hv=>by rw[List.mem_singleton.1 hv];rfl) rfl)) (.cons (.int _ _) .nil)) (lf ((A9 a3 _ _).trans (if_neg a7)) fun _=>(L8 a3 _).symm)
theorem FJ:∀ {f:FuncId} {vs:List V} {σ:St} {k:ai},wO f vs σ k→ag Tryz.prog f vs k σ:=fun h=>aD aaM FI h
def OA (l:List ae) (c:an):Nat→List SV→Prop
 | 0,ss=>∃i:Nat,(cn l=0∧¬(c.f0<1∨6<c.f0))∧i≤(aN c).length∧(∀j,j<i→¬mC l (aN c) j)∧ss=[.val (af ae.enc 3 l),.box c.cells,.val (af V.str 1 (aN c)),.val (.int .i64 (i:Int))]
 | 1,ss=>∃i:Nat,(cn l=0∧¬(c.f0<1∨6<c.f0)∧fc l (aN c)=0∧kE c (aA l c.f1) (aA l c.f2)=0)∧i≤(kT c (aA l c.f1)).length∧(∀j,j<i→¬oq l (aN c) (kT c (aA l c.f1)) j)∧
   ss=[.val (af ae.enc 3 l),.val (af V.str 1 (aN c)),.val (af ae.enc 3 (kT c (aA l c.f1))),.val (.int .i64 (i:Int))]
 | _,_=>False
omit [Env] [aL] in
theorem n5 (c:an) (t:ae):(kT c t).length≤2:=by
 unfold kT vC
 repeat' split
 all_goals first | exact Nat.le_refl 2 | exact Nat.le_succ 1
noncomputable def m31 (l:List ae) (c:an):Nat→List SV→Nat
 | 0,ss=>10+((aN c).length-bF ss)
 | _,ss=>(kT c (aA l c.f1)).length-bF ss
omit [aL] in
theorem OA.clean {l:List ae} {c:an}:∀k ss,OA l c k ss→∀s∈ss,s.clean
 | 0,_,⟨_,_,_,_,e⟩=>by subst e;exact ax (bE l) (ax (an.clean c) (ax (dF _) (ay bg)))
 | 1,_,⟨_,_,_,_,e⟩=>by subst e;exact ax (bE l) (ax (dF _) (ax (bE _) (ay bg)))
 | n+2,_,h=>h.elim
omit [aL] in
theorem cq {l:List ae} {c:an} (hk:k (.tuple [af ae.enc 3 (ck l c),.int .i64 (cK l c)]) σ) {e:Int} (h:cK l c=e) (h0:e≠0) {τ:St}:aK σ k (.tuple [.aj,.int .i64 e]) τ:=by
 have e':ck l c=[]:=if_neg (by rw[h];exact h0)
 rw[e',h] at hk
 exact aK.hR vJ hk
set_option maxRecDepth 100000 in
theorem aaN (h:W31 vs σ k):ag Tryz.prog 31 vs k σ:=by
 obtain⟨l,c,rfl,⟨hc,hP,ht⟩,hk⟩:=h
 refine ag.aV (ar (bE l) (ar c.aE aG)) (F31.gV (live:=zB) (call:=wO) (fun h=>FJ h) 2 (by kernel_rfl) Nat.lt_wfRel.wf (m31 l c) (OA l c) OA.clean ?_ ?_)
 ·rw[e31]
  exact⟨l,rfl,fun t h=>dV.eX (ht t h),rfl,aq (fun a=>cq hk (oY a) a) fun a=>⟨rfl,aq (fun a1=>cq hk (CV (Decidable.not_not.1 a) (.inl a1)) (by decide)) fun a1=>⟨rfl,aq (fun a2=>cq hk (CV (Decidable.not_not.1 a) (.inr a2)) (by decide)) fun a2=>
   ⟨c,rfl,0,⟨Decidable.not_not.1 a,by omega⟩,Nat.zero_le _,fun j hj=>absurd hj (Nat.not_lt_zero j),rfl⟩⟩⟩⟩
 ·intro j hj ss hI
  have hs:=xX c
  have jA:=n5 c (aA l c.f1)
  match j,hI with
  | 0,hI=>
   obtain⟨i,⟨g1,g2⟩,hi,hm,rfl⟩:=hI
   obtain⟨g3,g4⟩:=cp g1
   rw[ahC]
   refine⟨rfl,aq (fun a1=>⟨⟨by omega,by omega⟩,l,_,rfl,by omega,rfl,aq (fun a2=>cq hk ?_ (by decide)) fun a2=>?_⟩) fun a1=>?_⟩
   ·have:=kp (l:=l) (ss:=aN c) (i:=i) (by omega) a2 hm
    exact(qB g1 g2 (by rw[this];decide)).trans this
   ·rw[i64_in ((i:Int)+1) (by omega)]
    refine⟨⟨i+1,⟨g1,g2⟩,by omega,fun j hj=>?_,rfl⟩,?_⟩
    ·by_cases e:j=i
     ·subst e;exact a2
     ·exact hm j (by omega)
    ·show 10+((aN c).length-((i:Int)+1).toNat)<10+((aN c).length-(i:Int).toNat)
     omega
   ·obtain rfl:i=(aN c).length:=by omega
    obtain⟨f1,f2⟩:=pQ g2 hm
    have mD:=np hm
    refine⟨l,c,rfl,⟨hc,by omega,hP,g3,fun t h=>⟨ht t h,g4 t h⟩,f1,f2⟩,fun h0=>⟨rfl,⟨0,⟨g1,g2,mD,h0⟩,Nat.zero_le _,fun j hj=>absurd hj (Nat.not_lt_zero j),rfl⟩,?_⟩,fun h0 q=>⟨rfl,aq (fun a=>cq hk (qC g1 g2 mD h0) h0) fun a=>absurd h0 a⟩⟩
    show(kT c (aA l c.f1)).length-(0:Int).toNat<10+_
    omega
  | 1,hI=>
   obtain⟨i,⟨g1,g2,g3,g4⟩,hi,hm,rfl⟩:=hI
   obtain⟨g5,g6⟩:=cp g1
   have go:¬oq l (aN c) (kT c (aA l c.f1)) i→i<(kT c (aA l c.f1)).length→OA l c 1 [.val (af ae.enc 3 l),.val (af V.str 1 (aN c)),.val (af ae.enc 3 (kT c (aA l c.f1))),.val (.int .i64 (IntKind.i64.wrap ((i:Int)+1)))]∧(kT c (aA l c.f1)).length-(IntKind.i64.wrap ((i:Int)+1)).toNat<(kT c (aA l c.f1)).length-(i:Int).toNat:=fun h1 h2=>by
    rw[i64_in ((i:Int)+1) (by omega)]
    refine⟨⟨i+1,⟨g1,g2,g3,g4⟩,by omega,fun j hj=>?_,rfl⟩,by omega⟩
    by_cases e:j=i
    ·subst e;exact h1
    ·exact hm j (by omega)
   rw[ahE]
   refine⟨rfl,aq (fun a1=>⟨⟨by omega,by omega⟩,l,_,rfl,by omega,rfl,aq (fun a2=>⟨⟨by omega,by omega⟩,_,rfl,by omega,rfl,aq (fun a3=>cq hk ?_ (by decide)) fun a3=>go (fun h=>a3 h.2) (by omega)⟩) fun a2=>go (fun h=>a2 h.1) (by omega)⟩) fun a1=>?_⟩
   ·have:=nq (l:=l) (ss:=aN c) (i:=i) (by omega) ⟨a2,a3⟩ hm
    exact(iQ g1 g2 g3 g4).trans this
   ·obtain rfl:i=(kT c (aA l c.f1)).length:=by omega
    have hz:=(iQ g1 g2 g3 g4).trans (pP hm)
    have e':ck l c=kT c (aA l c.f1):=if_pos hz
    rw[e',hz] at hk
    exact aK.hR (.cons (.clean (bE _)) (.cons (.int _ _) .nil)) hk
  | n+2,hI=>exact hI.elim
theorem R6:∀ {f:FuncId} {vs:List V} {σ:St} {k:ai},TT f vs σ k→ag Tryz.prog f vs k σ:=fun h=>aD aaN FJ h
end
end Go.Proofs.YtbajncpfmemdgaaGreatDoor
end
section
namespace Go.Proofs.YtbajncpfmemdgaaGreatDoor
open Go Go.Ev
def TW [Env] (vs:List V) (σ:St) (k:ai):Prop:=
 ∃(t:ae) (s:List UInt8),vs=[ae.enc t,.str s]∧t.f2.length≤8∧(az t s= -1→k (.int .i64 (-1)) σ)∧(az t s=0→k (.int .i64 (0)) σ)∧(az t s=1→k (.int .i64 (1)) σ)∧(az t s=2→k (.int .i64 (2)) σ)∧(az t s=3→k (.int .i64 (3)) σ)∧(az t s=4→k (.int .i64 (4)) σ)∧(az t s=5→k (.int .i64 (5)) σ)∧(az t s=6→k (.int .i64 (6)) σ)∧(az t s=7→k (.int .i64 (7)) σ)
def CW [Env]:=kS 226 TW TT
def JU:Nat→List Nat:=(fun _=>[])
abbrev qX [Env] (A:Nat→List SV→Prop) (Q:V→St→Prop) (c:an) (l:List ae) (p0:ae) (p1:List UInt8) (p2:Int) (p3:Nat):Prop:=
 (az p0 p1=p2→((.i64:IntKind)=.i64∧aa (decide ((p2:Int)<((l.getD 0 default).f1))) (Q (.tuple [.aj,.int .i64 (10:Int)]) ⟨(St.new (St.new Go.Ev.start 0 (.cells 18 [] (ah (an.cells c) .leaf 0) true false)) 1 (.cells 3 [] (ah (ae.cells (l.getD 0 default)) .leaf 0) true false)).heap,2⟩) (((0≤(p2:Int)∧(p2:Int)<((((l.getD 0 default).f2).length:Nat):Int))∧aa ((!(iY ((((l.getD 0 default).f2).getD p3 default).f1) c.f6))) (Q (.tuple [.aj,.int .i64 (5:Int)]) ⟨(St.new (St.new Go.Ev.start 0 (.cells 18 [] (ah (an.cells c) .leaf 0) true false)) 1 (.cells 3 [] (ah (ae.cells (l.getD 0 default)) .leaf 0) true false)).heap,13⟩) ((∃b0:List ak,[af ak.enc 7 ((l.getD 0 default).f2)]=[af ak.enc 7 b0]∧(0<b0.length∧b0.length≤1000)∧((0≤(p2:Int)∧(p2:Int)<((b0.length:Nat):Int))∧(p3<b0.length∧(p3<b0.length∧(zl (⟨((b0.getD p3 default).f3.f0),((b0.getD p3 default).f3.f1),((b0.getD p3 default).f3.f2),((b0.getD p3 default).f3.f3)⟩:aC)∧(p3<b0.length∧(∃(b1:ae) (b2:Int),bA ⟨(St.new (St.new (St.new Go.Ev.start 0 (.cells 18 [] (ah (an.cells c) .leaf 0) true false)) 1 (.cells 3 [] (ah [.str ((l.getD 0 default).f0),.int .i64 ((l.getD 0 default).f1),.own 13 b0.length 7] .leaf 0) true false)) 13 (.row b0.length (eV (eV (fun i=>ak.enc (b0.getD i default)) p3 (.agg [.str ((b0.getD p3 default).f0),.int .i64 c.f6,.bool (b0.getD p3 default).f2,.int .i64 ((b0.getD p3 default).f3.f0),.int .i64 ((b0.getD p3 default).f3.f1),.int .u64 ((b0.getD p3 default).f3.f2),.str ((b0.getD p3 default).f3.f3)])) p3 (.agg [.str ((b0.getD p3 default).f0),.int .i64 c.f6,.bool (b0.getD p3 default).f2,.int .i64 ((jV (⟨((b0.getD p3 default).f3.f0),((b0.getD p3 default).f3.f1),((b0.getD p3 default).f3.f2),((b0.getD p3 default).f3.f3)⟩:aC) c.f6).f0),.int .i64 ((jV (⟨((b0.getD p3 default).f3.f0),((b0.getD p3 default).f3.f1),((b0.getD p3 default).f3.f2),((b0.getD p3 default).f3.f3)⟩:aC) c.f6).f1),.int .u64 ((jV (⟨((b0.getD p3 default).f3.f0),((b0.getD p3 default).f3.f1),((b0.getD p3 default).f3.f2),((b0.getD p3 default).f3.f3)⟩:aC) c.f6).f2),.str ((jV (⟨((b0.getD p3 default).f3.f0),((b0.getD p3 default).f3.f1),((b0.getD p3 default).f3.f2),((b0.getD p3 default).f3.f3)⟩:aC) c.f6).f3)])) 7 false)).heap,28⟩ [.agg [.str ((l.getD 0 default).f0),.int .i64 ((l.getD 0 default).f1),.own 13 b0.length 7],.int .i64 (0:Int)] [ae.enc b1,.int .i64 b2]∧(b2=0→Q (.tuple [.own 28 (1) 3,.int .i64 (0:Int)]) ⟨(St.new Go.Ev.start 28 (.row (1) (fun i=>ae.enc (([b1]).getD i default)) 3 false)).heap,29⟩)∧(b2≠0→Q (.tuple [.aj,.int .i64 b2]) ⟨Go.Ev.start.heap,28⟩)))))))))))))
theorem ahH [Env] (A:Nat→List SV→Prop) (Q:V→St→Prop) (c:an) (l:List ae):WE Tryz.prog 309 Tryz.f309 CW 0 JU A Q [an.enc c,af ae.enc 3 l] Go.Ev.start=
  (((0≤(0:Int)∧(0:Int)<((l.length:Nat):Int))∧(∃(pR:ae) (qY:List UInt8),[.agg (ae.cells (l.getD 0 default)),.str c.f5]=[ae.enc pR,.str qY]∧pR.f2.length≤8∧(qX A Q c l pR qY (-1) 0)∧(qX A Q c l pR qY 0 0)∧(qX A Q c l pR qY 1 1)∧(qX A Q c l pR qY 2 2)∧(qX A Q c l pR qY 3 3)∧(qX A Q c l pR qY 4 4)∧(qX A Q c l pR qY 5 5)∧(qX A Q c l pR qY 6 6)∧(qX A Q c l pR qY 7 7)))):=by kernel_rfl
def aaO [Env] (vs:List V) (σ:St) (k:ai):Prop:=
 ∃(c:an) (l:List ae),bA σ vs [an.enc c,af ae.enc 3 l]∧(fx c∧c.f0=4∧c.f7.length≤1000000∧1≤l.length∧l.length≤16∧∀t∈l,dV t∧bK t=0)∧(kE c (l.getD 0 default) (l.getD 1 default)=0→k (.tuple [.own σ.next (kT c (l.getD 0 default)).length 3,.int .i64 0]) ((void σ.next).new σ.next (.row (kT c (l.getD 0 default)).length (fun i=>ae.enc ((kT c (l.getD 0 default)).getD i default)) 3 false)))∧(kE c (l.getD 0 default) (l.getD 1 default)≠0→k (.tuple [.aj,.int .i64 (kE c (l.getD 0 default) (l.getD 1 default))]) (void σ.next))
def TX [Env]:=kS 309 aaO CW
def aaP [Env] (vs:List V) (σ:St) (k:ai):Prop:=
 ∃l:List ak,vs=[af ak.enc 7 l]∧(0<l.length∧l.length≤1000)∧k (af ak.enc 7 l) σ
def ew [Env]:=kS 74 aaP TX
def dM:Nat→List Nat:=(fun i=>match i with | 0=>[0,6,8,9,30,31,32] | 1=>[0,6,9,13,58,59,60] | _=>[])
abbrev pS [Env] (A:Nat→List SV→Prop) (Q:V→St→Prop) (l:List ae) (c:an) (p0:an) (p1:Int) (p2:Nat):Prop:=
 (p0.f0=p1→(∃b0:List ae,[af ae.enc 3 l]=[af ae.enc 3 b0]∧(∀b1∈b0,eX b1)∧((.i64:IntKind)=.i64∧aa (decide ((cn b0)≠(0:Int))) (Q (.tuple [.aj,.int .i64 (cn b0)]) ⟨(St.new Go.Ev.start 0 (.cells 18 [] (ah (an.cells c) .leaf 0) true false)).heap,1⟩) ((∃b2:an,[an.enc p0]=[an.enc b2]∧A 0 [.val (af ae.enc 3 l),.val (.iface p2 (an.enc p0)),.val (.aj),.val (af V.str 1 (([b2.f1]))),.val (af V.str 1 (([b2.f1]))),.val (.int .i64 ((((([b2.f1])).length:Nat):Int))),.val (.int .i64 (0:Int))])))))
theorem FK [Env] (A:Nat→List SV→Prop) (Q:V→St→Prop) (l:List ae) (c:an):WE Tryz.prog 30 Tryz.f30 ew 0 dM A Q [af ae.enc 3 l,an.enc c] Go.Ev.start=
  ((∃nr:an,[.agg (an.cells c)]=[an.enc nr]∧(nr.f0=1→(∃Mm:List ae,[af ae.enc 3 l]=[af ae.enc 3 Mm]∧(∀t∈Mm,eX t)∧((.i64:IntKind)=.i64∧aa (decide ((cn Mm)≠(0:Int))) (Q (.tuple [.aj,.int .i64 (cn Mm)]) ⟨(St.new Go.Ev.start 0 (.cells 18 [] (ah (an.cells c) .leaf 0) true false)).heap,1⟩) ((∃ahI:an,[an.enc nr]=[an.enc ahI]∧A 0 [.val (af ae.enc 3 l),.val (.iface 159 (an.enc nr)),.val (.aj),.val (af V.str 1 ((([]:List (List UInt8))))),.val (af V.str 1 ((([]:List (List UInt8))))),.val (.int .i64 (((((([]:List (List UInt8)))).length:Nat):Int))),.val (.int .i64 (0:Int))])))))∧(pS A Q l c nr 2 160)∧(pS A Q l c nr 3 161)∧(pS A Q l c nr 4 162)∧(pS A Q l c nr 5 163)∧(nr.f0=6→(∃Mn:List ae,[af ae.enc 3 l]=[af ae.enc 3 Mn]∧(∀t∈Mn,eX t)∧((.i64:IntKind)=.i64∧aa (decide ((cn Mn)≠(0:Int))) (Q (.tuple [.aj,.int .i64 (cn Mn)]) ⟨(St.new Go.Ev.start 0 (.cells 18 [] (ah (an.cells c) .leaf 0) true false)).heap,1⟩) ((∃xY:an,[an.enc nr]=[an.enc xY]∧A 0 [.val (af ae.enc 3 l),.val (.iface 164 (an.enc nr)),.val (.aj),.val (af V.str 1 (([xY.f1,xY.f2]))),.val (af V.str 1 (([xY.f1,xY.f2]))),.val (.int .i64 ((((([xY.f1,xY.f2])).length:Nat):Int))),.val (.int .i64 (0:Int))])))))∧((nr.f0<1∨6<nr.f0)→(∃Mo:List ae,[af ae.enc 3 l]=[af ae.enc 3 Mo]∧(∀t∈Mo,eX t)∧((.i64:IntKind)=.i64∧aa (decide ((cn Mo)≠(0:Int))) (Q (.tuple [.aj,.int .i64 (cn Mo)]) ⟨(St.new Go.Ev.start 0 (.cells 18 [] (ah (an.cells c) .leaf 0) true false)).heap,1⟩) (Q (.tuple [.aj,.int .i64 (1:Int)]) ⟨(St.new Go.Ev.start 0 (.cells 18 [] (ah (an.cells c) .leaf 0) true false)).heap,1⟩)))))):=by kernel_rfl
abbrev ot [Env] (A:Nat→List SV→Prop) (Q:V→St→Prop) (l:List ae) (c:an) (s:List (List UInt8)) (m i:Int) (p0:Nat) (p1:Int) (p2:Nat):Prop:=
 ((.i64:IntKind)=.i64∧aa (decide (i<m)) (((0≤i∧i<((s.length:Nat):Int))∧(∃(b0:List ae) (b1:List UInt8),[af ae.enc 3 l,.str ((s.getD i.toNat default))]=[af ae.enc 3 b0,.str b1]∧b0.length≤1000000∧((.i64:IntKind)=.i64∧aa (decide ((aM b0 b1)<(0:Int))) (Q (.tuple [.aj,.int .i64 (9:Int)]) ⟨Go.Ev.start.heap,0⟩) (((0≤(aM b0 b1)∧(aM b0 b1)<((l.length:Nat):Int))∧(((1:Nat)=1∧(1:Nat)=1∧1*3=1*3)∧A 0 [.val (af ae.enc 3 l),.val (.iface p0 (an.enc c)),.row 1 (fun _=>.agg (ae.cells (l.getD (aM b0 b1).toNat default))) 3,.val (af V.str 1 s),.val (af V.str 1 s),.val (.int .i64 m),.val (.int .i64 (IntKind.i64.wrap (i+(1:Int))))]))))))) ((∃(b2:an) (b3:List ae),bA ⟨Go.Ev.start.heap,0⟩ [an.enc c,.aj] [an.enc b2,af ae.enc 3 b3]∧(fx b2∧b2.f0=p1∧b2.f7.length≤1000000∧p2≤b3.length∧b3.length≤16∧∀b4∈b3,dV b4∧bK b4=0)∧(kE b2 (b3.getD 0 default) (b3.getD 1 default)=0→((.i64:IntKind)=.i64∧((((kT b2 (b3.getD 0 default)).length)=((kT b2 (b3.getD 0 default)).length)∧3=3)∧A 1 [.val (af ae.enc 3 l),.val (.iface p0 (an.enc c)),.val (af V.str 1 s),.row ((kT b2 (b3.getD 0 default)).length) (fun i=>ae.enc ((kT b2 (b3.getD 0 default)).getD i default)) 3,.al 0 ((kT b2 (b3.getD 0 default)).length) 3,.val (.int .i64 ((((kT b2 (b3.getD 0 default)).length:Nat):Int))),.val (.int .i64 (0:Int))])))∧(kE b2 (b3.getD 0 default) (b3.getD 1 default)≠0→((.i64:IntKind)=.i64∧aa (decide (((kE b2 (b3.getD 0 default) (b3.getD 1 default)))≠(0:Int))) (Q (.tuple [.aj,.int .i64 ((kE b2 (b3.getD 0 default) (b3.getD 1 default)))]) ⟨Go.Ev.start.heap,0⟩) (A 1 [.val (af ae.enc 3 l),.val (.iface p0 (an.enc c)),.val (af V.str 1 s),.val (.aj),.val (.aj),.val (.int .i64 (0:Int)),.val (.int .i64 (0:Int))]))))))
theorem acA [Env] (A:Nat→List SV→Prop) (Q:V→St→Prop) (l:List ae) (c:an) (s:List (List UInt8)) (m i:Int):WL Tryz.prog 30 Tryz.f30 ew 0 dM A Q 0 [.val (af ae.enc 3 l),.val (.iface 159 (an.enc c)),.val (.aj),.val (af V.str 1 s),.val (af V.str 1 s),.val (.int .i64 m),.val (.int .i64 i)]=
  ((ot A Q l c s m i 159 1 0)):=by kernel_rfl
theorem acB [Env] (A:Nat→List SV→Prop) (Q:V→St→Prop) (l:List ae) (c:an) (s:List (List UInt8)) (m i:Int):WL Tryz.prog 30 Tryz.f30 ew 0 dM A Q 0 [.val (af ae.enc 3 l),.val (.iface 160 (an.enc c)),.val (.aj),.val (af V.str 1 s),.val (af V.str 1 s),.val (.int .i64 m),.val (.int .i64 i)]=
  ((ot A Q l c s m i 160 2 1)):=by kernel_rfl
theorem acC [Env] (A:Nat→List SV→Prop) (Q:V→St→Prop) (l:List ae) (c:an) (s:List (List UInt8)) (m i:Int):WL Tryz.prog 30 Tryz.f30 ew 0 dM A Q 0 [.val (af ae.enc 3 l),.val (.iface 161 (an.enc c)),.val (.aj),.val (af V.str 1 s),.val (af V.str 1 s),.val (.int .i64 m),.val (.int .i64 i)]=
  ((ot A Q l c s m i 161 3 1)):=by kernel_rfl
theorem acD [Env] (A:Nat→List SV→Prop) (Q:V→St→Prop) (l:List ae) (c:an) (s:List (List UInt8)) (m i:Int):WL Tryz.prog 30 Tryz.f30 ew 0 dM A Q 0 [.val (af ae.enc 3 l),.val (.iface 162 (an.enc c)),.val (.aj),.val (af V.str 1 s),.val (af V.str 1 s),.val (.int .i64 m),.val (.int .i64 i)]=
  ((ot A Q l c s m i 162 4 1)):=by kernel_rfl
theorem acE [Env] (A:Nat→List SV→Prop) (Q:V→St→Prop) (l:List ae) (c:an) (s:List (List UInt8)) (m i:Int):WL Tryz.prog 30 Tryz.f30 ew 0 dM A Q 0 [.val (af ae.enc 3 l),.val (.iface 163 (an.enc c)),.val (.aj),.val (af V.str 1 s),.val (af V.str 1 s),.val (.int .i64 m),.val (.int .i64 i)]=
  ((ot A Q l c s m i 163 5 1)):=by kernel_rfl
theorem acF [Env] (A:Nat→List SV→Prop) (Q:V→St→Prop) (l:List ae) (c:an) (s:List (List UInt8)) (m i:Int):WL Tryz.prog 30 Tryz.f30 ew 0 dM A Q 0 [.val (af ae.enc 3 l),.val (.iface 164 (an.enc c)),.val (.aj),.val (af V.str 1 s),.val (af V.str 1 s),.val (.int .i64 m),.val (.int .i64 i)]=
  ((ot A Q l c s m i 164 6 2)):=by kernel_rfl
abbrev pT [Env] (A:Nat→List SV→Prop) (Q:V→St→Prop) (l:List ae) (c:an) (s:List (List UInt8)) (n:Nat) (f:Nat→V) (m i:Int) (p0:Nat) (p1:Int) (p2:Nat):Prop:=
 ((.i64:IntKind)=.i64∧aa (decide (i<m)) (((0≤i∧i<((s.length:Nat):Int))∧(∃(b0:List ae) (b1:List UInt8),[af ae.enc 3 l,.str ((s.getD i.toNat default))]=[af ae.enc 3 b0,.str b1]∧b0.length≤1000000∧((.i64:IntKind)=.i64∧aa (decide ((aM b0 b1)<(0:Int))) (Q (.tuple [.aj,.int .i64 (9:Int)]) ⟨(St.new Go.Ev.start 0 (.row n f 3 false)).heap,1⟩) (((0≤(aM b0 b1)∧(aM b0 b1)<((l.length:Nat):Int))∧((n=n∧(n+1)*48≤1099511627776)∧(((n+1)=(n+1)∧3=3)∧A 0 [.val (af ae.enc 3 l),.val (.iface p0 (an.enc c)),.row (n+1) (cw n f (fun _=>.agg (ae.cells (l.getD (aM b0 b1).toNat default)))) 3,.val (af V.str 1 s),.val (af V.str 1 s),.val (.int .i64 m),.val (.int .i64 (IntKind.i64.wrap (i+(1:Int))))])))))))) ((∃(b2:an) (b3:List ae),bA ⟨(St.new Go.Ev.start 0 (.row n f 3 false)).heap,1⟩ [an.enc c,.own 0 n 3] [an.enc b2,af ae.enc 3 b3]∧(fx b2∧b2.f0=p1∧b2.f7.length≤1000000∧p2≤b3.length∧b3.length≤16∧∀b4∈b3,dV b4∧bK b4=0)∧(kE b2 (b3.getD 0 default) (b3.getD 1 default)=0→((.i64:IntKind)=.i64∧((((kT b2 (b3.getD 0 default)).length)=((kT b2 (b3.getD 0 default)).length)∧3=3)∧A 1 [.val (af ae.enc 3 l),.val (.iface p0 (an.enc c)),.val (af V.str 1 s),.row ((kT b2 (b3.getD 0 default)).length) (fun i=>ae.enc ((kT b2 (b3.getD 0 default)).getD i default)) 3,.al 0 ((kT b2 (b3.getD 0 default)).length) 3,.val (.int .i64 ((((kT b2 (b3.getD 0 default)).length:Nat):Int))),.val (.int .i64 (0:Int))])))∧(kE b2 (b3.getD 0 default) (b3.getD 1 default)≠0→((.i64:IntKind)=.i64∧aa (decide (((kE b2 (b3.getD 0 default) (b3.getD 1 default)))≠(0:Int))) (Q (.tuple [.aj,.int .i64 ((kE b2 (b3.getD 0 default) (b3.getD 1 default)))]) ⟨Go.Ev.start.heap,1⟩) (A 1 [.val (af ae.enc 3 l),.val (.iface p0 (an.enc c)),.val (af V.str 1 s),.val (.aj),.val (.aj),.val (.int .i64 (0:Int)),.val (.int .i64 (0:Int))]))))))
theorem acG [Env] (A:Nat→List SV→Prop) (Q:V→St→Prop) (l:List ae) (c:an) (s:List (List UInt8)) (n:Nat) (f:Nat→V) (m i:Int):WL Tryz.prog 30 Tryz.f30 ew 0 dM A Q 0 [.val (af ae.enc 3 l),.val (.iface 160 (an.enc c)),.row n f 3,.val (af V.str 1 s),.val (af V.str 1 s),.val (.int .i64 m),.val (.int .i64 i)]=
  ((pT A Q l c s n f m i 160 2 1)):=by kernel_rfl
theorem acH [Env] (A:Nat→List SV→Prop) (Q:V→St→Prop) (l:List ae) (c:an) (s:List (List UInt8)) (n:Nat) (f:Nat→V) (m i:Int):WL Tryz.prog 30 Tryz.f30 ew 0 dM A Q 0 [.val (af ae.enc 3 l),.val (.iface 161 (an.enc c)),.row n f 3,.val (af V.str 1 s),.val (af V.str 1 s),.val (.int .i64 m),.val (.int .i64 i)]=
  ((pT A Q l c s n f m i 161 3 1)):=by kernel_rfl
theorem acI [Env] (A:Nat→List SV→Prop) (Q:V→St→Prop) (l:List ae) (c:an) (s:List (List UInt8)) (n:Nat) (f:Nat→V) (m i:Int):WL Tryz.prog 30 Tryz.f30 ew 0 dM A Q 0 [.val (af ae.enc 3 l),.val (.iface 162 (an.enc c)),.row n f 3,.val (af V.str 1 s),.val (af V.str 1 s),.val (.int .i64 m),.val (.int .i64 i)]=
  ((pT A Q l c s n f m i 162 4 1)):=by kernel_rfl
theorem acJ [Env] (A:Nat→List SV→Prop) (Q:V→St→Prop) (l:List ae) (c:an) (s:List (List UInt8)) (n:Nat) (f:Nat→V) (m i:Int):WL Tryz.prog 30 Tryz.f30 ew 0 dM A Q 0 [.val (af ae.enc 3 l),.val (.iface 163 (an.enc c)),.row n f 3,.val (af V.str 1 s),.val (af V.str 1 s),.val (.int .i64 m),.val (.int .i64 i)]=
  ((pT A Q l c s n f m i 163 5 1)):=by kernel_rfl
theorem TY [Env] (A:Nat→List SV→Prop) (Q:V→St→Prop) (l:List ae) (c:an) (s:List (List UInt8)) (n:Nat) (f:Nat→V) (m i:Int):WL Tryz.prog 30 Tryz.f30 ew 0 dM A Q 0 [.val (af ae.enc 3 l),.val (.iface 164 (an.enc c)),.row n f 3,.val (af V.str 1 s),.val (af V.str 1 s),.val (.int .i64 m),.val (.int .i64 i)]=
  ((pT A Q l c s n f m i 164 6 2)):=by kernel_rfl
end Go.Proofs.YtbajncpfmemdgaaGreatDoor
end
section
namespace Go.Proofs.YtbajncpfmemdgaaGreatDoor
open Go Go.Ev
abbrev xZ [Env] (A:Nat→List SV→Prop) (Q:V→St→Prop) (l:List ae) (c:an) (s:List (List UInt8)) (n:Nat) (T:List ae) (m i:Int) (p0:Nat):Prop:=
 (∃b0:List ak,[af ak.enc 7 ((T.getD i.toNat default).f2)]=[af ak.enc 7 b0]∧(0<b0.length∧b0.length≤1000)∧((0≤i∧i<((n:Nat):Int))∧(i.toNat<n∧((n=n∧3=3)∧A 1 [.val (af ae.enc 3 l),.val (.iface p0 (an.enc c)),.val (af V.str 1 s),.row n (eV (fun i=>ae.enc (T.getD i default)) i.toNat (.agg [.str ((T.getD i.toNat default).f0),.int .i64 ((T.getD i.toNat default).f1),af ak.enc 7 b0])) 3,.al 0 n 3,.val (.int .i64 m),.val (.int .i64 (IntKind.i64.wrap (i+(1:Int))))]))))
abbrev qZ [Env] (A:Nat→List SV→Prop) (Q:V→St→Prop) (l:List ae) (c:an) (s:List (List UInt8)) (n:Nat) (T:List ae) (m i:Int) (p0:Nat):Prop:=
 ((.i64:IntKind)=.i64∧aa (decide (i<m)) (((0≤i∧i<((n:Nat):Int))∧(i.toNat<n∧(∃(b0:List ae) (b1:List UInt8),[af ae.enc 3 l,.str ((T.getD i.toNat default).f0)]=[af ae.enc 3 b0,.str b1]∧b0.length≤1000000∧((.i64:IntKind)=.i64∧aa (decide ((aM b0 b1)≥(0:Int))) ((∃b2:an,([.iface p0 (an.enc c)]:List V)=[.iface p0 (an.enc b2)]∧((p0:TypeId)=159∨(p0:TypeId)=160∨(p0:TypeId)=161∨(p0:TypeId)=162∨(p0:TypeId)=163∨(p0:TypeId)=164)∧(∃b3:Nat→List UInt8,(fun i=>V.str (s.getD i default))=(fun i=>V.str (b3 i))∧s.length≤1000000∧aa ((!(decide (0≤bT ((T.getD i.toNat default).f0) b3 s.length)))) (Q (.tuple [.aj,.int .i64 (12:Int)]) ⟨(St.new (St.new Go.Ev.start 0 (.row n (fun i=>ae.enc (T.getD i default)) 3 false)) 1 (.cells 3 [] (ah (ae.cells (T.getD i.toNat default)) .leaf 0) true false)).heap,2⟩) ((xZ A Q l c s n T m i p0))))) ((xZ A Q l c s n T m i p0))))))) (Q (.tuple [.own 0 n 3,.int .i64 (0:Int)]) ⟨(St.new Go.Ev.start 0 (.row n (fun i=>ae.enc (T.getD i default)) 3 false)).heap,1⟩))
theorem acK [Env] (A:Nat→List SV→Prop) (Q:V→St→Prop) (l:List ae) (c:an) (s:List (List UInt8)) (n:Nat) (T:List ae) (m i:Int):WL Tryz.prog 30 Tryz.f30 ew 0 dM A Q 1 [.val (af ae.enc 3 l),.val (.iface 159 (an.enc c)),.val (af V.str 1 s),.row n (fun i=>ae.enc (T.getD i default)) 3,.al 0 n 3,.val (.int .i64 m),.val (.int .i64 i)]=
  (((.i64:IntKind)=.i64∧aa (decide (i<m)) (((0≤i∧i<((n:Nat):Int))∧(i.toNat<n∧(∃(R7:List ae) (aaQ:List UInt8),[af ae.enc 3 l,.str ((T.getD i.toNat default).f0)]=[af ae.enc 3 R7,.str aaQ]∧R7.length≤1000000∧((.i64:IntKind)=.i64∧aa (decide ((aM R7 aaQ)≥(0:Int))) ((∃ahJ:an,([.iface 159 (an.enc c)]:List V)=[.iface 159 (an.enc ahJ)]∧((159:TypeId)=159∨(159:TypeId)=160∨(159:TypeId)=161∨(159:TypeId)=162∨(159:TypeId)=163∨(159:TypeId)=164)∧Q (.tuple [.aj,.int .i64 (12:Int)]) ⟨(St.new (St.new Go.Ev.start 0 (.row n (fun i=>ae.enc (T.getD i default)) 3 false)) 1 (.cells 3 [] (ah (ae.cells (T.getD i.toNat default)) .leaf 0) true false)).heap,2⟩)) ((∃Mp:List ak,[af ak.enc 7 ((T.getD i.toNat default).f2)]=[af ak.enc 7 Mp]∧(0<Mp.length∧Mp.length≤1000)∧((0≤i∧i<((n:Nat):Int))∧(i.toNat<n∧((n=n∧3=3)∧A 1 [.val (af ae.enc 3 l),.val (.iface 159 (an.enc c)),.val (af V.str 1 s),.row n (eV (fun i=>ae.enc (T.getD i default)) i.toNat (.agg [.str ((T.getD i.toNat default).f0),.int .i64 ((T.getD i.toNat default).f1),af ak.enc 7 Mp])) 3,.al 0 n 3,.val (.int .i64 m),.val (.int .i64 (IntKind.i64.wrap (i+(1:Int))))])))))))))) (Q (.tuple [.own 0 n 3,.int .i64 (0:Int)]) ⟨(St.new Go.Ev.start 0 (.row n (fun i=>ae.enc (T.getD i default)) 3 false)).heap,1⟩))):=by kernel_rfl
theorem acL [Env] (A:Nat→List SV→Prop) (Q:V→St→Prop) (l:List ae) (c:an) (s:List (List UInt8)) (n:Nat) (T:List ae) (m i:Int):WL Tryz.prog 30 Tryz.f30 ew 0 dM A Q 1 [.val (af ae.enc 3 l),.val (.iface 160 (an.enc c)),.val (af V.str 1 s),.row n (fun i=>ae.enc (T.getD i default)) 3,.al 0 n 3,.val (.int .i64 m),.val (.int .i64 i)]=
  ((qZ A Q l c s n T m i 160)):=by kernel_rfl
theorem acM [Env] (A:Nat→List SV→Prop) (Q:V→St→Prop) (l:List ae) (c:an) (s:List (List UInt8)) (n:Nat) (T:List ae) (m i:Int):WL Tryz.prog 30 Tryz.f30 ew 0 dM A Q 1 [.val (af ae.enc 3 l),.val (.iface 161 (an.enc c)),.val (af V.str 1 s),.row n (fun i=>ae.enc (T.getD i default)) 3,.al 0 n 3,.val (.int .i64 m),.val (.int .i64 i)]=
  ((qZ A Q l c s n T m i 161)):=by kernel_rfl
theorem acN [Env] (A:Nat→List SV→Prop) (Q:V→St→Prop) (l:List ae) (c:an) (s:List (List UInt8)) (n:Nat) (T:List ae) (m i:Int):WL Tryz.prog 30 Tryz.f30 ew 0 dM A Q 1 [.val (af ae.enc 3 l),.val (.iface 162 (an.enc c)),.val (af V.str 1 s),.row n (fun i=>ae.enc (T.getD i default)) 3,.al 0 n 3,.val (.int .i64 m),.val (.int .i64 i)]=
  ((qZ A Q l c s n T m i 162)):=by kernel_rfl
theorem acO [Env] (A:Nat→List SV→Prop) (Q:V→St→Prop) (l:List ae) (c:an) (s:List (List UInt8)) (n:Nat) (T:List ae) (m i:Int):WL Tryz.prog 30 Tryz.f30 ew 0 dM A Q 1 [.val (af ae.enc 3 l),.val (.iface 163 (an.enc c)),.val (af V.str 1 s),.row n (fun i=>ae.enc (T.getD i default)) 3,.al 0 n 3,.val (.int .i64 m),.val (.int .i64 i)]=
  ((qZ A Q l c s n T m i 163)):=by kernel_rfl
theorem acP [Env] (A:Nat→List SV→Prop) (Q:V→St→Prop) (l:List ae) (c:an) (s:List (List UInt8)) (n:Nat) (T:List ae) (m i:Int):WL Tryz.prog 30 Tryz.f30 ew 0 dM A Q 1 [.val (af ae.enc 3 l),.val (.iface 164 (an.enc c)),.val (af V.str 1 s),.row n (fun i=>ae.enc (T.getD i default)) 3,.al 0 n 3,.val (.int .i64 m),.val (.int .i64 i)]=
  ((qZ A Q l c s n T m i 164)):=by kernel_rfl
def W30 [Env] (vs:List V) (σ:St) (k:ai):Prop:=
 ∃(l:List ae) (c:an),vs=[af ae.enc 3 l,an.enc c]∧(fx c∧c.f7.length≤1000000∧∀t∈l,dV t)∧k (.tuple [af ae.enc 3 (ck l c),.int .i64 (cK l c)]) σ
def TZ [Env]:=kS 30 W30 ew
end Go.Proofs.YtbajncpfmemdgaaGreatDoor
end
section
namespace Go.Proofs.YtbajncpfmemdgaaGreatDoor
open Go Go.Ev Go.IntWalk
theorem F309:bc Tryz.prog 309 Tryz.f309:=.of (by kernel_rfl) (by kernel_rfl)
theorem F30:bc Tryz.prog 30 Tryz.f30:=.of (by kernel_rfl) (by kernel_rfl)
theorem lY {t:ae} {s:List UInt8} {d:Int} {i:Nat} (h:az t s=i) (hi:i<t.f2.length):
  bp t.f2.length (eV (eV (fun j=>ak.enc (t.f2.getD j default)) i (ak.enc ⟨(t.f2.getD i default).f0,d,(t.f2.getD i default).f2,(t.f2.getD i default).f3⟩)) i (ak.enc (A0 (t.f2.getD i default) d))) (vB t s d).f2:=by
 have e:(vB t s d).f2=(t.f2.set i ⟨(t.f2.getD i default).f0,d,(t.f2.getD i default).f2,(t.f2.getD i default).f3⟩).set i (A0 (t.f2.getD i default) d):=by
  rw[List.set_set]
  show t.f2.set (az t s).toNat (A0 (t.f2.getD (az t s).toNat default) d)=_
  rw[h];rfl
 rw[e]
 exact((bp.of t.f2).kR hi _ rfl).kR hi _ rfl
theorem eD {t:ae} {s:List UInt8} {i:Nat} (h:az t s=i):oW t s=t.f2.getD i default:=by
 show t.f2.getD (az t s).toNat default=_
 rw[h];rfl
section
variable [Env] [aL] {vs:List V} {σ:St} {k:ai}
theorem R8 (h:TW vs σ k):ag Tryz.prog 226 vs k σ:=by
 obtain⟨t,s,rfl,hn,hm,h0,h1,h2,h3,h4,h5,h6,h7⟩:=h
 refine JB ⟨t,s,rfl,by omega,?_⟩
 have hb:=pM t s
 generalize hx:az t s=x at *
 rcases(show x= -1∨x=0∨x=1∨x=2∨x=3∨x=4∨x=5∨x=6∨x=7 by omega) with rfl | rfl | rfl | rfl | rfl | rfl | rfl | rfl | rfl
 ·exact hm rfl
 ·exact h0 rfl
 ·exact h1 rfl
 ·exact h2 rfl
 ·exact h3 rfl
 ·exact h4 rfl
 ·exact h5 rfl
 ·exact h6 rfl
 ·exact h7 rfl
theorem FL:∀ {f:FuncId} {vs:List V} {σ:St} {k:ai},CW f vs σ k→ag Tryz.prog f vs k σ:=fun h=>aD R8 R6 h
set_option maxRecDepth 100000 in
theorem Wg (h:aaO vs σ k):ag Tryz.prog 309 vs k σ:=by
 obtain⟨c,l,hf,⟨hc,h0,_,hl,_,ht⟩,hk,fB⟩:=h
 have ho:xn σ k _ _:=⟨hk,fB⟩
 obtain⟨n4,uf⟩:=ht _ (bm (show 0<l.length by omega))
 have hlen:0<(l.getD 0 default).f2.length∧(l.getD 0 default).f2.length≤8∧1≤(l.getD 0 default).f1:=by have:=(kY uf).1;obtain⟨_,h1,h2,_⟩:=this;omega
 refine ag.lX hf (F309.cd (live:=JU) (call:=CW) (fun h=>FL h) (by kernel_rfl) ?_)
 rw[Ma h0 (l.getD 0 default),L9 h0 (l.getD 0 default) (l.getD 1 default)] at ho
 have hca:=pM (l.getD 0 default) c.f5
 rw[ahH];unfold qX
 refine⟨⟨by omega,by omega⟩,_,_,rfl,hlen.2.1,fun h=>⟨rfl,aq (fun a1=>ho.err (k6 (by omega)) (by decide)) fun a1=>absurd (show(-1:Int)<(l.getD 0 default).f1 by omega) a1⟩,?_,?_,?_,?_,?_,?_,?_,?_⟩
 ·intro h
  have hh:az (l.getD 0 default) c.f5=((0:Nat):Int):=h
  have hi:0<(l.getD 0 default).f2.length:=by omega
  refine⟨rfl,aq (fun a1=>ho.err (k6 (by rw[h];exact a1)) (by decide)) fun a1=>⟨⟨by omega,by omega⟩,aa.mk (fun a2=>ho.err (mB (by rw[h];exact a1) ?_) (by decide)) fun a2=>⟨(l.getD 0 default).f2,rfl,⟨by omega,by omega⟩,⟨by omega,by omega⟩,by omega,by omega,n4 _ (bm hi),by omega,_,_,fe (p:=false) (by rfl) (lY hh hi),ho.one rfl (k7 (by rw[h];exact a1) ?_)⟩⟩⟩
  ·rw[Bool.not_eq_true'] at a2;rw[eD hh];exact a2
  ·rw[Bool.not_eq_false'] at a2;rw[eD hh];exact a2
 ·intro h
  have hh:az (l.getD 0 default) c.f5=((1:Nat):Int):=h
  have hi:1<(l.getD 0 default).f2.length:=by omega
  refine⟨rfl,aq (fun a1=>ho.err (k6 (by rw[h];exact a1)) (by decide)) fun a1=>⟨⟨by omega,by omega⟩,aa.mk (fun a2=>ho.err (mB (by rw[h];exact a1) ?_) (by decide)) fun a2=>⟨(l.getD 0 default).f2,rfl,⟨by omega,by omega⟩,⟨by omega,by omega⟩,by omega,by omega,n4 _ (bm hi),by omega,_,_,fe (p:=false) (by rfl) (lY hh hi),ho.one rfl (k7 (by rw[h];exact a1) ?_)⟩⟩⟩
  ·rw[Bool.not_eq_true'] at a2;rw[eD hh];exact a2
  ·rw[Bool.not_eq_false'] at a2;rw[eD hh];exact a2
 ·intro h
  have hh:az (l.getD 0 default) c.f5=((2:Nat):Int):=h
  have hi:2<(l.getD 0 default).f2.length:=by omega
  refine⟨rfl,aq (fun a1=>ho.err (k6 (by rw[h];exact a1)) (by decide)) fun a1=>⟨⟨by omega,by omega⟩,aa.mk (fun a2=>ho.err (mB (by rw[h];exact a1) ?_) (by decide)) fun a2=>⟨(l.getD 0 default).f2,rfl,⟨by omega,by omega⟩,⟨by omega,by omega⟩,by omega,by omega,n4 _ (bm hi),by omega,_,_,fe (p:=false) (by rfl) (lY hh hi),ho.one rfl (k7 (by rw[h];exact a1) ?_)⟩⟩⟩
  ·rw[Bool.not_eq_true'] at a2;rw[eD hh];exact a2
  ·rw[Bool.not_eq_false'] at a2;rw[eD hh];exact a2
 ·intro h
  have hh:az (l.getD 0 default) c.f5=((3:Nat):Int):=h
  have hi:3<(l.getD 0 default).f2.length:=by omega
  refine⟨rfl,aq (fun a1=>ho.err (k6 (by rw[h];exact a1)) (by decide)) fun a1=>⟨⟨by omega,by omega⟩,aa.mk (fun a2=>ho.err (mB (by rw[h];exact a1) ?_) (by decide)) fun a2=>⟨(l.getD 0 default).f2,rfl,⟨by omega,by omega⟩,⟨by omega,by omega⟩,by omega,by omega,n4 _ (bm hi),by omega,_,_,fe (p:=false) (by rfl) (lY hh hi),ho.one rfl (k7 (by rw[h];exact a1) ?_)⟩⟩⟩
  ·rw[Bool.not_eq_true'] at a2;rw[eD hh];exact a2
  ·rw[Bool.not_eq_false'] at a2;rw[eD hh];exact a2
 ·intro h
  have hh:az (l.getD 0 default) c.f5=((4:Nat):Int):=h
  have hi:4<(l.getD 0 default).f2.length:=by omega
  refine⟨rfl,aq (fun a1=>ho.err (k6 (by rw[h];exact a1)) (by decide)) fun a1=>⟨⟨by omega,by omega⟩,aa.mk (fun a2=>ho.err (mB (by rw[h];exact a1) ?_) (by decide)) fun a2=>⟨(l.getD 0 default).f2,rfl,⟨by omega,by omega⟩,⟨by omega,by omega⟩,by omega,by omega,n4 _ (bm hi),by omega,_,_,fe (p:=false) (by rfl) (lY hh hi),ho.one rfl (k7 (by rw[h];exact a1) ?_)⟩⟩⟩
  ·rw[Bool.not_eq_true'] at a2;rw[eD hh];exact a2
  ·rw[Bool.not_eq_false'] at a2;rw[eD hh];exact a2
 ·intro h
  have hh:az (l.getD 0 default) c.f5=((5:Nat):Int):=h
  have hi:5<(l.getD 0 default).f2.length:=by omega
  refine⟨rfl,aq (fun a1=>ho.err (k6 (by rw[h];exact a1)) (by decide)) fun a1=>⟨⟨by omega,by omega⟩,aa.mk (fun a2=>ho.err (mB (by rw[h];exact a1) ?_) (by decide)) fun a2=>⟨(l.getD 0 default).f2,rfl,⟨by omega,by omega⟩,⟨by omega,by omega⟩,by omega,by omega,n4 _ (bm hi),by omega,_,_,fe (p:=false) (by rfl) (lY hh hi),ho.one rfl (k7 (by rw[h];exact a1) ?_)⟩⟩⟩
  ·rw[Bool.not_eq_true'] at a2;rw[eD hh];exact a2
  ·rw[Bool.not_eq_false'] at a2;rw[eD hh];exact a2
 ·intro h
  have hh:az (l.getD 0 default) c.f5=((6:Nat):Int):=h
  have hi:6<(l.getD 0 default).f2.length:=by omega
  refine⟨rfl,aq (fun a1=>ho.err (k6 (by rw[h];exact a1)) (by decide)) fun a1=>⟨⟨by omega,by omega⟩,aa.mk (fun a2=>ho.err (mB (by rw[h];exact a1) ?_) (by decide)) fun a2=>⟨(l.getD 0 default).f2,rfl,⟨by omega,by omega⟩,⟨by omega,by omega⟩,by omega,by omega,n4 _ (bm hi),by omega,_,_,fe (p:=false) (by rfl) (lY hh hi),ho.one rfl (k7 (by rw[h];exact a1) ?_)⟩⟩⟩
  ·rw[Bool.not_eq_true'] at a2;rw[eD hh];exact a2
  ·rw[Bool.not_eq_false'] at a2;rw[eD hh];exact a2
 ·intro h
  have hh:az (l.getD 0 default) c.f5=((7:Nat):Int):=h
  have hi:7<(l.getD 0 default).f2.length:=by omega
  refine⟨rfl,aq (fun a1=>ho.err (k6 (by rw[h];exact a1)) (by decide)) fun a1=>⟨⟨by omega,by omega⟩,aa.mk (fun a2=>ho.err (mB (by rw[h];exact a1) ?_) (by decide)) fun a2=>⟨(l.getD 0 default).f2,rfl,⟨by omega,by omega⟩,⟨by omega,by omega⟩,by omega,by omega,n4 _ (bm hi),by omega,_,_,fe (p:=false) (by rfl) (lY hh hi),ho.one rfl (k7 (by rw[h];exact a1) ?_)⟩⟩⟩
  ·rw[Bool.not_eq_true'] at a2;rw[eD hh];exact a2
  ·rw[Bool.not_eq_false'] at a2;rw[eD hh];exact a2
theorem R9:∀ {f:FuncId} {vs:List V} {σ:St} {k:ai},TX f vs σ k→ag Tryz.prog f vs k σ:=fun h=>aD Wg FL h
theorem Wi (h:aaP vs σ k):ag Tryz.prog 74 vs k σ:=by
 obtain⟨l,rfl,hn,h⟩:=h
 refine ag.aV (us:=[af ak.enc 7 l]) (ar (er l) aG) (bX.imp (us:=[KO ak.enc 7 l]) (fun ρ xs hx=>?_) (F74.cd (live:=Fc) (call:=Fb) (fun h=>A5 h) (by kernel_rfl) ?_))
 ·cases hx with
  | cons h1 h2=>exact .cons (Ot hn.1 h1) h2
 ·rw[e74]
  exact aq (fun h1=>by omega) fun h1=>⟨by omega,aK.gf (.own (g:=fun i=>ak.enc (l.getD i default)) (p:=true) (by rfl) (fun i hi=>fO (ak.clean _)) fun i hi=>rfl) h⟩
theorem kq:∀ {f:FuncId} {vs:List V} {σ:St} {k:ai},ew f vs σ k→ag Tryz.prog f vs k σ:=fun h=>aD Wi R9 h
end
end Go.Proofs.YtbajncpfmemdgaaGreatDoor
end
