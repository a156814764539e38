/- Proved: parts of the way: BD7, BEq24, BEq25, BD8. -/
import Derived.Test.YtbajncpfmemdgaaGreatDoorEvQ25
section
namespace Go.Proofs.YtbajncpfmemdgaaGreatDoor
open Go Go.Ev Go.IntWalk
theorem cY {l:List af} (h:cG l=0):l.length≤16∧∀t∈l,bR t=0:=by
 by_cases h1:l.length>16
 ·rw[tK h1] at h;cases h
 refine⟨by omega,fun t ht=>?_⟩
 have h2:dC (fun i=>bR (l.getD i default)) l.length=0:=Classical.byContradiction fun h3=>by
  unfold cG at h
  rw[if_neg h1,if_pos h3] at h
  exact h3 h
 obtain⟨i,hi,rfl⟩:=List.getElem_of_mem ht
 have:=(cM _ _).1 h2 i hi
 rwa [By hi] at this
theorem pf {l:List af} {c:an} (h:cG l≠0):gf l c=cG l:=if_pos h
theorem Dv {l:List af} {c:an} (h:cG l=0) (h2:c.f0<1∨6<c.f0):gf l c=1:=(if_neg fun g=>g h).trans (if_pos h2)
theorem qW {l:List af} {c:an} (h:cG l=0) (h2:¬(c.f0<1∨6<c.f0)) (h3:fp l (bt c)≠0):gf l c=fp l (bt c):=((if_neg fun g=>g h).trans (if_neg h2)).trans (if_pos h3)
theorem qX {l:List af} {c:an} (h:cG l=0) (h2:¬(c.f0<1∨6<c.f0)) (h3:fp l (bt c)=0) (h4:kE c (aD l c.f1) (aD l c.f2)≠0):gf l c=kE c (aD l c.f1) (aD l c.f2):=
 (((if_neg fun g=>g h).trans (if_neg h2)).trans (if_neg fun g=>g h3)).trans (if_pos h4)
theorem j4 {l:List af} {c:an} (h:cG l=0) (h2:¬(c.f0<1∨6<c.f0)) (h3:fp l (bt c)=0) (h4:kE c (aD l c.f1) (aD l c.f2)=0):gf l c=UE l (bt c) (kT c (aD l c.f1)):=
 (((if_neg fun g=>g h).trans (if_neg h2)).trans (if_neg fun g=>g h3)).trans (if_neg fun g=>g h4)
def m0 (l:List af) (ss:List (List UInt8)) (i:Nat):Prop:=aS l (ss.getD i default)<0
theorem kD {l:List af} {ss:List (List UInt8)} {i:Nat} (hi:i<ss.length) (h:m0 l ss i) (hj:∀j,j<i→¬m0 l ss j):fp l ss=9:=by
 have h9:(if aS l (ss.getD i default)<0 then(9:Int) else 0)=9:=if_pos h
 have:=jt (fun i=>if aS l (ss.getD i default)<0 then(9:Int) else 0) ss.length i hi (fun g=>by rw[h9] at g;cases g) fun j gS=>if_neg (hj j gS)
 exact this.trans h9
theorem nG {l:List af} {ss:List (List UInt8)} (hj:∀j,j<ss.length→¬m0 l ss j):fp l ss=0:=(cM _ _).2 fun j h=>if_neg (hj j h)
def oG (l:List af) (ss:List (List UInt8)) (o:List af) (i:Nat):Prop:=0≤aS l (o.getD i default).f0∧kW ss (o.getD i default).f0<0
theorem nH {l o:List af} {ss:List (List UInt8)} {i:Nat} (hi:i<o.length) (h:oG l ss o i) (hj:∀j,j<i→¬oG l ss o j):UE l ss o=12:=by
 have h9:(if 0≤aS l (o.getD i default).f0∧kW ss (o.getD i default).f0<0 then(12:Int) else 0)=12:=if_pos h
 have:=jt (fun i=>if 0≤aS l (o.getD i default).f0∧kW ss (o.getD i default).f0<0 then(12:Int) else 0) o.length i hi (fun g=>by rw[h9] at g;cases g) fun j gS=>if_neg (hj j gS)
 exact this.trans h9
theorem qm {l o:List af} {ss:List (List UInt8)} (hj:∀j,j<o.length→¬oG l ss o j):UE l ss o=0:=(cM _ _).2 fun j h=>if_neg (hj j h)
theorem qn {l:List af} {c:an} (hr:¬(c.f0<1∨6<c.f0)) (hj:∀j,j<(bt c).length→¬m0 l (bt c) j):(c.f0≠1→0≤aS l c.f1)∧(c.f0=6→0≤aS l c.f2):=by
 refine⟨fun h=>?_,fun h=>?_⟩
 ·by_cases h6:c.f0=6
  ·have:=hj 0 (by rw[qi h6];exact Nat.zero_lt_succ _)
   unfold m0 at this
   rw[qi h6] at this
   exact Int.not_lt.1 this
  ·have hs:=lA (c:=c) (by omega)
   have:=hj 0 (by rw[hs];exact Nat.zero_lt_succ _)
   unfold m0 at this
   rw[hs] at this
   exact Int.not_lt.1 this
 ·have:=hj 1 (by rw[qi h];exact Nat.le_refl _)
  unfold m0 at this
  rw[qi h] at this
  exact Int.not_lt.1 this
theorem Gz (c:an):(bt c).length≤2:=by
 unfold bt
 split
 ·exact Nat.le_refl 2
 ·split
  ·exact Nat.le_succ 1
  ·exact Nat.zero_le _
section
variable [Env] {σ:St} {k:ah}
omit [Env] in
theorem ac8 {E:Int} {T:List af} (h1:E=0→k (.tuple [ae af.enc 3 T,.int .i64 0]) σ) (h2:E≠0→∀q:List af,k (.tuple [ae af.enc 3 q,.int .i64 E]) σ) {e:Int} {q:List af} (he:E=e) (hq:e=0→q=T):k (.tuple [ae af.enc 3 q,.int .i64 e]) σ:=by
 subst he
 by_cases h:E=0
 ·rw[hq h,h];exact h1 h
 ·exact h2 h q
variable [aZ] {vs:List V}
set_option maxRecDepth 100000 in
theorem abA (h:W75 vs σ k):ag Tryz.prog 75 vs k σ:=by
 obtain⟨l,c,rfl,⟨hc,hr,ic,akC,ht,UI,hf2⟩,hk1,hk2⟩:=h
 refine ag.aQ (av (cF l) (av c.aJ aM)) (F75.ck (live:=Pg) (call:=Du) (fun h=>Gy h) (by kernel_rfl) ?_)
 have lf:∀ {e:Int} {q:List af},kE c (aD l c.f1) (aD l c.f2)=e→(e=0→q=kT c (aD l c.f1))→k (.tuple [ae af.enc 3 q,.int .i64 e]) σ:=fun he hq=>ac8 hk1 hk2 he hq
 have b1:=dr l c.f1
 have tl:∀t∈l,t.f2.length≤1000:=fun t h=>by have:=(oo (ht t h).2).1;obtain⟨_,h1,_⟩:=this;omega
 rw[e75]
 refine⟨rfl,aq (fun a1=>⟨c.f9,rfl,e8.ga hc.2,cB (by simp [V.beq,V.fJ,af.cells,ae]) (bd.kC (.cons (tT (by rfl)) (.cons (.int _ _) .nil)) (lf (yq a1 _ _) fun _=>(Gi a1 _).symm))⟩) fun a1=>⟨rfl,aq (fun a6=>⟨l,c,rfl,⟨by omega,UI a1,hf2 a6,tl⟩,bd.kC (.cons (.clean (cF _)) (.cons (.int _ _) .nil)) (lf (abd a6 _ _) fun h=>?_)⟩) fun a6=>?_⟩⟩
 ·exact(if_pos h).trans (SD a6 _).symm
 have b2:=UI a1
 have hm:aD l c.f1∈l:=bn (by omega)
 obtain⟨ou,uN⟩:=ht _ hm
 have hlen:0<(aD l c.f1).f2.length∧(aD l c.f1).f2.length≤8∧1≤(aD l c.f1).f1:=by have:=(oo uN).1;obtain⟨_,h1,h2,_⟩:=this;omega
 refine⟨l,c.f1,rfl,by omega,⟨b2,b1.2⟩,rfl,aq (fun a5=>⟨aD l c.f1,c,rfl,⟨ic,hlen.2.2,hlen.1,by omega⟩,bd.kC (.cons (.clean (cF _)) (.cons (.int _ _) .nil)) (lf (MP a5 _ _) fun h=>?_)⟩) fun a5=>⟨rfl,aq (fun a2=>⟨aD l c.f1,c.f8,rfl,⟨hc.1.1,hlen.1,by omega⟩,bd.kC (.cons (tT (t:=wo (aD l c.f1) c.f8) (by rfl)) (.cons (.int _ _) .nil)) (lf (MN a2 _ _) fun h=>?_)⟩) fun a2=>
  ⟨rfl,aq (fun a4=>⟨aD l c.f1,c.f5,c.f6,rfl,⟨ou,hlen.2.2,hlen.1,by omega⟩,bd.kC (.cons (tT (t:=wq (aD l c.f1) c.f5 c.f6) (by rfl)) (.cons (.int _ _) .nil)) (lf (MO a4 _ _) fun h=>?_)⟩) fun a4=>?_⟩⟩⟩
 ·exact(if_pos h).trans (SC a5 _).symm
 ·have e':wo (aD l c.f1) c.f8=BA (aD l c.f1) c.f8:=if_pos h
  rw[e'];exact(Sz a2 _).symm
 ·have e':wq (aD l c.f1) c.f5 c.f6=wm (aD l c.f1) c.f5 c.f6:=if_pos h
  rw[e'];exact(SB a4 _).symm
 have a3:c.f0=3:=by omega
 have hca:=qj (aD l c.f1) c.f5
 refine⟨aD l c.f1,c.f5,rfl,by omega,rfl,aq (fun a7=>bd.kC z9 (lf ((BK a3 _ _).trans (if_pos a7)) fun h=>by cases h)) fun a7=>⟨(aD l c.f1).f2,_,rfl,by omega,fun h=>?_,fun n f hn hrc=>?_⟩⟩
 ·have a7:¬aB (aD l c.f1) c.f5<(aD l c.f1).f1:=a7
  exact(sB (decide_eq_true (by omega)) _ hlen.1 h).elim
 ·have a7:¬aB (aD l c.f1) c.f5<(aD l c.f1).f1:=a7
  obtain⟨rfl,k1⟩:=hrc
  exact bd.kC (us:=[ae af.enc 3 [w9 (aD l c.f1) c.f5],.int .i64 0]) (.cons (.kR (.slice (es:=[af.enc (w9 (aD l c.f1) c.f5)]) (by rfl) (.cons (.str _) (.cons (.int _ _) (.cons (.own (g:=fun i=>aj.enc ((w9 (aD l c.f1) c.f5).f2.getD i default)) (p:=false) (by rfl) (fun i hi=>by rw[k1 i hi];exact g8 (aj.clean _)) fun i hi=>rfl) .nil)))
   (fun v hv=>by rw[List.mem_singleton.1 hv];rfl) rfl)) (.cons (.int _ _) .nil)) (lf ((BK a3 _ _).trans (if_neg a7)) fun _=>(SA a3 _).symm)
theorem GA:∀ {f:FuncId} {vs:List V} {σ:St} {k:ah},xc f vs σ k→ag Tryz.prog f vs k σ:=fun h=>aH abA Gy h
def Ph (l:List af) (c:an):Nat→List SV→Prop
 | 0,ss=>∃i:Nat,(cG l=0∧¬(c.f0<1∨6<c.f0))∧i≤(bt c).length∧(∀j,j<i→¬m0 l (bt c) j)∧ss=[.val (ae af.enc 3 l),.box c.cells,.val (ae V.str 1 (bt c)),.val (.int .i64 (i:Int))]
 | 1,ss=>∃i:Nat,(cG l=0∧¬(c.f0<1∨6<c.f0)∧fp l (bt c)=0∧kE c (aD l c.f1) (aD l c.f2)=0)∧i≤(kT c (aD l c.f1)).length∧(∀j,j<i→¬oG l (bt c) (kT c (aD l c.f1)) j)∧
   ss=[.val (ae af.enc 3 l),.val (ae V.str 1 (bt c)),.val (ae af.enc 3 (kT c (aD l c.f1))),.val (.int .i64 (i:Int))]
 | _,_=>False
omit [Env] [aZ] in
theorem ov (c:an) (t:af):(kT c t).length≤2:=by
 unfold kT yn
 repeat' split
 all_goals first | exact Nat.le_refl 2 | exact Nat.le_succ 1
noncomputable def m31 (l:List af) (c:an):Nat→List SV→Nat
 | 0,ss=>10+((bt c).length-cb ss)
 | _,ss=>(kT c (aD l c.f1)).length-cb ss
omit [aZ] in
theorem Ph.clean {l:List af} {c:an}:∀k ss,Ph l c k ss→∀s∈ss,s.clean
 | 0,_,⟨_,_,_,_,e⟩=>by subst e;exact aN (cF l) (aN (an.clean c) (aN (fh _) (aG bG)))
 | 1,_,⟨_,_,_,_,e⟩=>by subst e;exact aN (cF l) (aN (fh _) (aN (cF _) (aG bG)))
 | n+2,_,h=>h.elim
omit [aZ] in
theorem cA {l:List af} {c:an} (hk:k (.tuple [ae af.enc 3 (gq l c),.int .i64 (gf l c)]) σ) {e:Int} (h:gf l c=e) (h0:e≠0) {τ:St}:bd σ k (.tuple [.ak,.int .i64 e]) τ:=by
 have e':gq l c=[]:=if_neg (by rw[h];exact h0)
 rw[e',h] at hk
 exact bd.kC z9 hk
set_option maxRecDepth 100000 in
theorem abB (h:W31 vs σ k):ag Tryz.prog 31 vs k σ:=by
 obtain⟨l,c,rfl,⟨hc,ic,ht⟩,hk⟩:=h
 refine ag.aQ (av (cF l) (av c.aJ aM)) (F31.jR (live:=z7) (call:=xc) (fun h=>GA h) 2 (by kernel_rfl) Nat.lt_wfRel.wf (m31 l c) (Ph l c) Ph.clean ?_ ?_)
 ·rw[e31]
  exact⟨l,rfl,fun t h=>e8.ga (ht t h),rfl,aq (fun a=>cA hk (pf a) a) fun a=>⟨rfl,aq (fun a1=>cA hk (Dv (Decidable.not_not.1 a) (.inl a1)) (by decide)) fun a1=>⟨rfl,aq (fun a2=>cA hk (Dv (Decidable.not_not.1 a) (.inr a2)) (by decide)) fun a2=>
   ⟨c,rfl,0,⟨Decidable.not_not.1 a,by omega⟩,Nat.zero_le _,fun j hj=>absurd hj (Nat.not_lt_zero j),rfl⟩⟩⟩⟩
 ·intro j hj ss hI
  have hs:=Gz c
  have lh:=ov c (aD l c.f1)
  match j,hI with
  | 0,hI=>
   obtain⟨i,⟨g1,g2⟩,hi,hm,rfl⟩:=hI
   obtain⟨g3,g4⟩:=cY g1
   rw[ahX]
   refine⟨rfl,aq (fun a1=>⟨⟨by omega,by omega⟩,l,_,rfl,by omega,rfl,aq (fun a2=>cA hk ?_ (by decide)) fun a2=>?_⟩) fun a1=>?_⟩
   ·have:=kD (l:=l) (ss:=bt c) (i:=i) (by omega) a2 hm
    exact(qW g1 g2 (by rw[this];decide)).trans this
   ·rw[i64_in ((i:Int)+1) (by omega)]
    refine⟨⟨i+1,⟨g1,g2⟩,by omega,fun j hj=>?_,rfl⟩,?_⟩
    ·by_cases e:j=i
     ·subst e;exact a2
     ·exact hm j (by omega)
    ·show 10+((bt c).length-((i:Int)+1).toNat)<10+((bt c).length-(i:Int).toNat)
     omega
   ·obtain rfl:i=(bt c).length:=by omega
    obtain⟨f1,f2⟩:=qn g2 hm
    have m3:=nG hm
    refine⟨l,c,rfl,⟨hc,by omega,ic,g3,fun t h=>⟨ht t h,g4 t h⟩,f1,f2⟩,fun h0=>⟨rfl,⟨0,⟨g1,g2,m3,h0⟩,Nat.zero_le _,fun j hj=>absurd hj (Nat.not_lt_zero j),rfl⟩,?_⟩,fun h0 q=>⟨rfl,aq (fun a=>cA hk (qX g1 g2 m3 h0) h0) fun a=>absurd h0 a⟩⟩
    show(kT c (aD l c.f1)).length-(0:Int).toNat<10+_
    omega
  | 1,hI=>
   obtain⟨i,⟨g1,g2,g3,g4⟩,hi,hm,rfl⟩:=hI
   obtain⟨g5,g6⟩:=cY g1
   have go:¬oG l (bt c) (kT c (aD l c.f1)) i→i<(kT c (aD l c.f1)).length→Ph l c 1 [.val (ae af.enc 3 l),.val (ae V.str 1 (bt c)),.val (ae af.enc 3 (kT c (aD l c.f1))),.val (.int .i64 (IntKind.i64.wrap ((i:Int)+1)))]∧(kT c (aD l c.f1)).length-(IntKind.i64.wrap ((i:Int)+1)).toNat<(kT c (aD l c.f1)).length-(i:Int).toNat:=fun h1 h2=>by
    rw[i64_in ((i:Int)+1) (by omega)]
    refine⟨⟨i+1,⟨g1,g2,g3,g4⟩,by omega,fun j hj=>?_,rfl⟩,by omega⟩
    by_cases e:j=i
    ·subst e;exact h1
    ·exact hm j (by omega)
   rw[ahZ]
   refine⟨rfl,aq (fun a1=>⟨⟨by omega,by omega⟩,l,_,rfl,by omega,rfl,aq (fun a2=>⟨⟨by omega,by omega⟩,_,rfl,by omega,rfl,aq (fun a3=>cA hk ?_ (by decide)) fun a3=>go (fun h=>a3 h.2) (by omega)⟩) fun a2=>go (fun h=>a2 h.1) (by omega)⟩) fun a1=>?_⟩
   ·have:=nH (l:=l) (ss:=bt c) (i:=i) (by omega) ⟨a2,a3⟩ hm
    exact(j4 g1 g2 g3 g4).trans this
   ·obtain rfl:i=(kT c (aD l c.f1)).length:=by omega
    have hz:=(j4 g1 g2 g3 g4).trans (qm hm)
    have e':gq l c=kT c (aD l c.f1):=if_pos hz
    rw[e',hz] at hk
    exact bd.kC (.cons (.clean (cF _)) (.cons (.int _ _) .nil)) hk
  | n+2,hI=>exact hI.elim
theorem SY:∀ {f:FuncId} {vs:List V} {σ:St} {k:ah},UG f vs σ k→ag Tryz.prog f vs k σ:=fun h=>aH abB GA h
end
end Go.Proofs.YtbajncpfmemdgaaGreatDoor
end
section
namespace Go.Proofs.YtbajncpfmemdgaaGreatDoor
open Go Go.Ev
def UJ [Env] (vs:List V) (σ:St) (k:ah):Prop:=
 ∃(t:af) (s:List UInt8),vs=[af.enc t,.str s]∧t.f2.length≤8∧(aB t s= -1→k (.int .i64 (-1)) σ)∧(aB t s=0→k (.int .i64 (0)) σ)∧(aB t s=1→k (.int .i64 (1)) σ)∧(aB t s=2→k (.int .i64 (2)) σ)∧(aB t s=3→k (.int .i64 (3)) σ)∧(aB t s=4→k (.int .i64 (4)) σ)∧(aB t s=5→k (.int .i64 (5)) σ)∧(aB t s=6→k (.int .i64 (6)) σ)∧(aB t s=7→k (.int .i64 (7)) σ)
def Dw [Env]:=kS 226 UJ UG
def Kx:Nat→List Nat:=(fun _=>[])
abbrev ry [Env] (A:Nat→List SV→Prop) (Q:V→St→Prop) (c:an) (l:List af) (p0:af) (p1:List UInt8) (p2:Int) (p3:Nat):Prop:=
 (aB p0 p1=p2→((.i64:IntKind)=.i64∧aa (decide ((p2:Int)<((l.getD 0 default).f1))) (Q (.tuple [.ak,.int .i64 (10:Int)]) ⟨(St.new (St.new Go.Ev.start 0 (.cells 18 [] (ai (an.cells c) .leaf 0) true false)) 1 (.cells 3 [] (ai (af.cells (l.getD 0 default)) .leaf 0) true false)).heap,2⟩) (((0≤(p2:Int)∧(p2:Int)<((((l.getD 0 default).f2).length:Nat):Int))∧aa ((!(jh ((((l.getD 0 default).f2).getD p3 default).f1) c.f6))) (Q (.tuple [.ak,.int .i64 (5:Int)]) ⟨(St.new (St.new Go.Ev.start 0 (.cells 18 [] (ai (an.cells c) .leaf 0) true false)) 1 (.cells 3 [] (ai (af.cells (l.getD 0 default)) .leaf 0) true false)).heap,13⟩) ((∃b0:List aj,[ae aj.enc 7 ((l.getD 0 default).f2)]=[ae aj.enc 7 b0]∧(0<b0.length∧b0.length≤1000)∧((0≤(p2:Int)∧(p2:Int)<((b0.length:Nat):Int))∧(p3<b0.length∧(p3<b0.length∧(zP (⟨((b0.getD p3 default).f3.f0),((b0.getD p3 default).f3.f1),((b0.getD p3 default).f3.f2),((b0.getD p3 default).f3.f3)⟩:az)∧(p3<b0.length∧(∃(b1:af) (b2:Int),bH ⟨(St.new (St.new (St.new Go.Ev.start 0 (.cells 18 [] (ai (an.cells c) .leaf 0) true false)) 1 (.cells 3 [] (ai [.str ((l.getD 0 default).f0),.int .i64 ((l.getD 0 default).f1),.own 13 b0.length 7] .leaf 0) true false)) 13 (.row b0.length (e9 (e9 (fun i=>aj.enc (b0.getD i default)) p3 (.agg [.str ((b0.getD p3 default).f0),.int .i64 c.f6,.bool (b0.getD p3 default).f2,.int .i64 ((b0.getD p3 default).f3.f0),.int .i64 ((b0.getD p3 default).f3.f1),.int .u64 ((b0.getD p3 default).f3.f2),.str ((b0.getD p3 default).f3.f3)])) p3 (.agg [.str ((b0.getD p3 default).f0),.int .i64 c.f6,.bool (b0.getD p3 default).f2,.int .i64 ((j3 (⟨((b0.getD p3 default).f3.f0),((b0.getD p3 default).f3.f1),((b0.getD p3 default).f3.f2),((b0.getD p3 default).f3.f3)⟩:az) c.f6).f0),.int .i64 ((j3 (⟨((b0.getD p3 default).f3.f0),((b0.getD p3 default).f3.f1),((b0.getD p3 default).f3.f2),((b0.getD p3 default).f3.f3)⟩:az) c.f6).f1),.int .u64 ((j3 (⟨((b0.getD p3 default).f3.f0),((b0.getD p3 default).f3.f1),((b0.getD p3 default).f3.f2),((b0.getD p3 default).f3.f3)⟩:az) c.f6).f2),.str ((j3 (⟨((b0.getD p3 default).f3.f0),((b0.getD p3 default).f3.f1),((b0.getD p3 default).f3.f2),((b0.getD p3 default).f3.f3)⟩:az) c.f6).f3)])) 7 false)).heap,28⟩ [.agg [.str ((l.getD 0 default).f0),.int .i64 ((l.getD 0 default).f1),.own 13 b0.length 7],.int .i64 (0:Int)] [af.enc b1,.int .i64 b2]∧(b2=0→Q (.tuple [.own 28 (1) 3,.int .i64 (0:Int)]) ⟨(St.new Go.Ev.start 28 (.row (1) (fun i=>af.enc (([b1]).getD i default)) 3 false)).heap,29⟩)∧(b2≠0→Q (.tuple [.ak,.int .i64 b2]) ⟨Go.Ev.start.heap,28⟩)))))))))))))
theorem ah2 [Env] (A:Nat→List SV→Prop) (Q:V→St→Prop) (c:an) (l:List af):WE Tryz.prog 309 Tryz.f309 Dw 0 Kx A Q [an.enc c,ae af.enc 3 l] Go.Ev.start=
  (((0≤(0:Int)∧(0:Int)<((l.length:Nat):Int))∧(∃(qo:af) (rz:List UInt8),[.agg (af.cells (l.getD 0 default)),.str c.f5]=[af.enc qo,.str rz]∧qo.f2.length≤8∧(ry A Q c l qo rz (-1) 0)∧(ry A Q c l qo rz 0 0)∧(ry A Q c l qo rz 1 1)∧(ry A Q c l qo rz 2 2)∧(ry A Q c l qo rz 3 3)∧(ry A Q c l qo rz 4 4)∧(ry A Q c l qo rz 5 5)∧(ry A Q c l qo rz 6 6)∧(ry A Q c l qo rz 7 7)))):=by kernel_rfl
def abC [Env] (vs:List V) (σ:St) (k:ah):Prop:=
 ∃(c:an) (l:List af),bH σ vs [an.enc c,ae af.enc 3 l]∧(gL c∧c.f0=4∧c.f7.length≤1000000∧1≤l.length∧l.length≤16∧∀t∈l,e8 t∧bR t=0)∧(kE c (l.getD 0 default) (l.getD 1 default)=0→k (.tuple [.own σ.next (kT c (l.getD 0 default)).length 3,.int .i64 0]) ((void σ.next).new σ.next (.row (kT c (l.getD 0 default)).length (fun i=>af.enc ((kT c (l.getD 0 default)).getD i default)) 3 false)))∧(kE c (l.getD 0 default) (l.getD 1 default)≠0→k (.tuple [.ak,.int .i64 (kE c (l.getD 0 default) (l.getD 1 default))]) (void σ.next))
def UK [Env]:=kS 309 abC Dw
def abD [Env] (vs:List V) (σ:St) (k:ah):Prop:=
 ∃l:List aj,vs=[ae aj.enc 7 l]∧(0<l.length∧l.length≤1000)∧k (ae aj.enc 7 l) σ
def eG [Env]:=kS 74 abD UK
def dS:Nat→List Nat:=(fun i=>match i with | 0=>[0,6,8,9,30,31,32] | 1=>[0,6,9,13,58,59,60] | _=>[])
abbrev qp [Env] (A:Nat→List SV→Prop) (Q:V→St→Prop) (l:List af) (c:an) (p0:an) (p1:Int) (p2:Nat):Prop:=
 (p0.f0=p1→(∃b0:List af,[ae af.enc 3 l]=[ae af.enc 3 b0]∧(∀b1∈b0,ga b1)∧((.i64:IntKind)=.i64∧aa (decide ((cG b0)≠(0:Int))) (Q (.tuple [.ak,.int .i64 (cG b0)]) ⟨(St.new Go.Ev.start 0 (.cells 18 [] (ai (an.cells c) .leaf 0) true false)).heap,1⟩) ((∃b2:an,[an.enc p0]=[an.enc b2]∧A 0 [.val (ae af.enc 3 l),.val (.iface p2 (an.enc p0)),.val (.ak),.val (ae V.str 1 (([b2.f1]))),.val (ae V.str 1 (([b2.f1]))),.val (.int .i64 ((((([b2.f1])).length:Nat):Int))),.val (.int .i64 (0:Int))])))))
theorem GB [Env] (A:Nat→List SV→Prop) (Q:V→St→Prop) (l:List af) (c:an):WE Tryz.prog 30 Tryz.f30 eG 0 dS A Q [ae af.enc 3 l,an.enc c] Go.Ev.start=
  ((∃nI:an,[.agg (an.cells c)]=[an.enc nI]∧(nI.f0=1→(∃MZ:List af,[ae af.enc 3 l]=[ae af.enc 3 MZ]∧(∀t∈MZ,ga t)∧((.i64:IntKind)=.i64∧aa (decide ((cG MZ)≠(0:Int))) (Q (.tuple [.ak,.int .i64 (cG MZ)]) ⟨(St.new Go.Ev.start 0 (.cells 18 [] (ai (an.cells c) .leaf 0) true false)).heap,1⟩) ((∃ah3:an,[an.enc nI]=[an.enc ah3]∧A 0 [.val (ae af.enc 3 l),.val (.iface 159 (an.enc nI)),.val (.ak),.val (ae V.str 1 ((([]:List (List UInt8))))),.val (ae V.str 1 ((([]:List (List UInt8))))),.val (.int .i64 (((((([]:List (List UInt8)))).length:Nat):Int))),.val (.int .i64 (0:Int))])))))∧(qp A Q l c nI 2 160)∧(qp A Q l c nI 3 161)∧(qp A Q l c nI 4 162)∧(qp A Q l c nI 5 163)∧(nI.f0=6→(∃M0:List af,[ae af.enc 3 l]=[ae af.enc 3 M0]∧(∀t∈M0,ga t)∧((.i64:IntKind)=.i64∧aa (decide ((cG M0)≠(0:Int))) (Q (.tuple [.ak,.int .i64 (cG M0)]) ⟨(St.new Go.Ev.start 0 (.cells 18 [] (ai (an.cells c) .leaf 0) true false)).heap,1⟩) ((∃yu:an,[an.enc nI]=[an.enc yu]∧A 0 [.val (ae af.enc 3 l),.val (.iface 164 (an.enc nI)),.val (.ak),.val (ae V.str 1 (([yu.f1,yu.f2]))),.val (ae V.str 1 (([yu.f1,yu.f2]))),.val (.int .i64 ((((([yu.f1,yu.f2])).length:Nat):Int))),.val (.int .i64 (0:Int))])))))∧((nI.f0<1∨6<nI.f0)→(∃M1:List af,[ae af.enc 3 l]=[ae af.enc 3 M1]∧(∀t∈M1,ga t)∧((.i64:IntKind)=.i64∧aa (decide ((cG M1)≠(0:Int))) (Q (.tuple [.ak,.int .i64 (cG M1)]) ⟨(St.new Go.Ev.start 0 (.cells 18 [] (ai (an.cells c) .leaf 0) true false)).heap,1⟩) (Q (.tuple [.ak,.int .i64 (1:Int)]) ⟨(St.new Go.Ev.start 0 (.cells 18 [] (ai (an.cells c) .leaf 0) true false)).heap,1⟩)))))):=by kernel_rfl
abbrev oH [Env] (A:Nat→List SV→Prop) (Q:V→St→Prop) (l:List af) (c:an) (s:List (List UInt8)) (m i:Int) (p0:Nat) (p1:Int) (p2:Nat):Prop:=
 ((.i64:IntKind)=.i64∧aa (decide (i<m)) (((0≤i∧i<((s.length:Nat):Int))∧(∃(b0:List af) (b1:List UInt8),[ae af.enc 3 l,.str ((s.getD i.toNat default))]=[ae af.enc 3 b0,.str b1]∧b0.length≤1000000∧((.i64:IntKind)=.i64∧aa (decide ((aS b0 b1)<(0:Int))) (Q (.tuple [.ak,.int .i64 (9:Int)]) ⟨Go.Ev.start.heap,0⟩) (((0≤(aS b0 b1)∧(aS b0 b1)<((l.length:Nat):Int))∧(((1:Nat)=1∧(1:Nat)=1∧1*3=1*3)∧A 0 [.val (ae af.enc 3 l),.val (.iface p0 (an.enc c)),.row 1 (fun _=>.agg (af.cells (l.getD (aS b0 b1).toNat default))) 3,.val (ae V.str 1 s),.val (ae V.str 1 s),.val (.int .i64 m),.val (.int .i64 (IntKind.i64.wrap (i+(1:Int))))]))))))) ((∃(b2:an) (b3:List af),bH ⟨Go.Ev.start.heap,0⟩ [an.enc c,.ak] [an.enc b2,ae af.enc 3 b3]∧(gL b2∧b2.f0=p1∧b2.f7.length≤1000000∧p2≤b3.length∧b3.length≤16∧∀b4∈b3,e8 b4∧bR b4=0)∧(kE b2 (b3.getD 0 default) (b3.getD 1 default)=0→((.i64:IntKind)=.i64∧((((kT b2 (b3.getD 0 default)).length)=((kT b2 (b3.getD 0 default)).length)∧3=3)∧A 1 [.val (ae af.enc 3 l),.val (.iface p0 (an.enc c)),.val (ae V.str 1 s),.row ((kT b2 (b3.getD 0 default)).length) (fun i=>af.enc ((kT b2 (b3.getD 0 default)).getD i default)) 3,.al 0 ((kT b2 (b3.getD 0 default)).length) 3,.val (.int .i64 ((((kT b2 (b3.getD 0 default)).length:Nat):Int))),.val (.int .i64 (0:Int))])))∧(kE b2 (b3.getD 0 default) (b3.getD 1 default)≠0→((.i64:IntKind)=.i64∧aa (decide (((kE b2 (b3.getD 0 default) (b3.getD 1 default)))≠(0:Int))) (Q (.tuple [.ak,.int .i64 ((kE b2 (b3.getD 0 default) (b3.getD 1 default)))]) ⟨Go.Ev.start.heap,0⟩) (A 1 [.val (ae af.enc 3 l),.val (.iface p0 (an.enc c)),.val (ae V.str 1 s),.val (.ak),.val (.ak),.val (.int .i64 (0:Int)),.val (.int .i64 (0:Int))]))))))
theorem ac9 [Env] (A:Nat→List SV→Prop) (Q:V→St→Prop) (l:List af) (c:an) (s:List (List UInt8)) (m i:Int):WL Tryz.prog 30 Tryz.f30 eG 0 dS A Q 0 [.val (ae af.enc 3 l),.val (.iface 159 (an.enc c)),.val (.ak),.val (ae V.str 1 s),.val (ae V.str 1 s),.val (.int .i64 m),.val (.int .i64 i)]=
  ((oH A Q l c s m i 159 1 0)):=by kernel_rfl
theorem ada [Env] (A:Nat→List SV→Prop) (Q:V→St→Prop) (l:List af) (c:an) (s:List (List UInt8)) (m i:Int):WL Tryz.prog 30 Tryz.f30 eG 0 dS A Q 0 [.val (ae af.enc 3 l),.val (.iface 160 (an.enc c)),.val (.ak),.val (ae V.str 1 s),.val (ae V.str 1 s),.val (.int .i64 m),.val (.int .i64 i)]=
  ((oH A Q l c s m i 160 2 1)):=by kernel_rfl
theorem adb [Env] (A:Nat→List SV→Prop) (Q:V→St→Prop) (l:List af) (c:an) (s:List (List UInt8)) (m i:Int):WL Tryz.prog 30 Tryz.f30 eG 0 dS A Q 0 [.val (ae af.enc 3 l),.val (.iface 161 (an.enc c)),.val (.ak),.val (ae V.str 1 s),.val (ae V.str 1 s),.val (.int .i64 m),.val (.int .i64 i)]=
  ((oH A Q l c s m i 161 3 1)):=by kernel_rfl
theorem ade [Env] (A:Nat→List SV→Prop) (Q:V→St→Prop) (l:List af) (c:an) (s:List (List UInt8)) (m i:Int):WL Tryz.prog 30 Tryz.f30 eG 0 dS A Q 0 [.val (ae af.enc 3 l),.val (.iface 162 (an.enc c)),.val (.ak),.val (ae V.str 1 s),.val (ae V.str 1 s),.val (.int .i64 m),.val (.int .i64 i)]=
  ((oH A Q l c s m i 162 4 1)):=by kernel_rfl
theorem adf [Env] (A:Nat→List SV→Prop) (Q:V→St→Prop) (l:List af) (c:an) (s:List (List UInt8)) (m i:Int):WL Tryz.prog 30 Tryz.f30 eG 0 dS A Q 0 [.val (ae af.enc 3 l),.val (.iface 163 (an.enc c)),.val (.ak),.val (ae V.str 1 s),.val (ae V.str 1 s),.val (.int .i64 m),.val (.int .i64 i)]=
  ((oH A Q l c s m i 163 5 1)):=by kernel_rfl
theorem adg [Env] (A:Nat→List SV→Prop) (Q:V→St→Prop) (l:List af) (c:an) (s:List (List UInt8)) (m i:Int):WL Tryz.prog 30 Tryz.f30 eG 0 dS A Q 0 [.val (ae af.enc 3 l),.val (.iface 164 (an.enc c)),.val (.ak),.val (ae V.str 1 s),.val (ae V.str 1 s),.val (.int .i64 m),.val (.int .i64 i)]=
  ((oH A Q l c s m i 164 6 2)):=by kernel_rfl
abbrev qq [Env] (A:Nat→List SV→Prop) (Q:V→St→Prop) (l:List af) (c:an) (s:List (List UInt8)) (n:Nat) (f:Nat→V) (m i:Int) (p0:Nat) (p1:Int) (p2:Nat):Prop:=
 ((.i64:IntKind)=.i64∧aa (decide (i<m)) (((0≤i∧i<((s.length:Nat):Int))∧(∃(b0:List af) (b1:List UInt8),[ae af.enc 3 l,.str ((s.getD i.toNat default))]=[ae af.enc 3 b0,.str b1]∧b0.length≤1000000∧((.i64:IntKind)=.i64∧aa (decide ((aS b0 b1)<(0:Int))) (Q (.tuple [.ak,.int .i64 (9:Int)]) ⟨(St.new Go.Ev.start 0 (.row n f 3 false)).heap,1⟩) (((0≤(aS b0 b1)∧(aS b0 b1)<((l.length:Nat):Int))∧((n=n∧(n+1)*48≤1099511627776)∧(((n+1)=(n+1)∧3=3)∧A 0 [.val (ae af.enc 3 l),.val (.iface p0 (an.enc c)),.row (n+1) (dL n f (fun _=>.agg (af.cells (l.getD (aS b0 b1).toNat default)))) 3,.val (ae V.str 1 s),.val (ae V.str 1 s),.val (.int .i64 m),.val (.int .i64 (IntKind.i64.wrap (i+(1:Int))))])))))))) ((∃(b2:an) (b3:List af),bH ⟨(St.new Go.Ev.start 0 (.row n f 3 false)).heap,1⟩ [an.enc c,.own 0 n 3] [an.enc b2,ae af.enc 3 b3]∧(gL b2∧b2.f0=p1∧b2.f7.length≤1000000∧p2≤b3.length∧b3.length≤16∧∀b4∈b3,e8 b4∧bR b4=0)∧(kE b2 (b3.getD 0 default) (b3.getD 1 default)=0→((.i64:IntKind)=.i64∧((((kT b2 (b3.getD 0 default)).length)=((kT b2 (b3.getD 0 default)).length)∧3=3)∧A 1 [.val (ae af.enc 3 l),.val (.iface p0 (an.enc c)),.val (ae V.str 1 s),.row ((kT b2 (b3.getD 0 default)).length) (fun i=>af.enc ((kT b2 (b3.getD 0 default)).getD i default)) 3,.al 0 ((kT b2 (b3.getD 0 default)).length) 3,.val (.int .i64 ((((kT b2 (b3.getD 0 default)).length:Nat):Int))),.val (.int .i64 (0:Int))])))∧(kE b2 (b3.getD 0 default) (b3.getD 1 default)≠0→((.i64:IntKind)=.i64∧aa (decide (((kE b2 (b3.getD 0 default) (b3.getD 1 default)))≠(0:Int))) (Q (.tuple [.ak,.int .i64 ((kE b2 (b3.getD 0 default) (b3.getD 1 default)))]) ⟨Go.Ev.start.heap,1⟩) (A 1 [.val (ae af.enc 3 l),.val (.iface p0 (an.enc c)),.val (ae V.str 1 s),.val (.ak),.val (.ak),.val (.int .i64 (0:Int)),.val (.int .i64 (0:Int))]))))))
theorem adh [Env] (A:Nat→List SV→Prop) (Q:V→St→Prop) (l:List af) (c:an) (s:List (List UInt8)) (n:Nat) (f:Nat→V) (m i:Int):WL Tryz.prog 30 Tryz.f30 eG 0 dS A Q 0 [.val (ae af.enc 3 l),.val (.iface 160 (an.enc c)),.row n f 3,.val (ae V.str 1 s),.val (ae V.str 1 s),.val (.int .i64 m),.val (.int .i64 i)]=
  ((qq A Q l c s n f m i 160 2 1)):=by kernel_rfl
theorem adi [Env] (A:Nat→List SV→Prop) (Q:V→St→Prop) (l:List af) (c:an) (s:List (List UInt8)) (n:Nat) (f:Nat→V) (m i:Int):WL Tryz.prog 30 Tryz.f30 eG 0 dS A Q 0 [.val (ae af.enc 3 l),.val (.iface 161 (an.enc c)),.row n f 3,.val (ae V.str 1 s),.val (ae V.str 1 s),.val (.int .i64 m),.val (.int .i64 i)]=
  ((qq A Q l c s n f m i 161 3 1)):=by kernel_rfl
theorem adj [Env] (A:Nat→List SV→Prop) (Q:V→St→Prop) (l:List af) (c:an) (s:List (List UInt8)) (n:Nat) (f:Nat→V) (m i:Int):WL Tryz.prog 30 Tryz.f30 eG 0 dS A Q 0 [.val (ae af.enc 3 l),.val (.iface 162 (an.enc c)),.row n f 3,.val (ae V.str 1 s),.val (ae V.str 1 s),.val (.int .i64 m),.val (.int .i64 i)]=
  ((qq A Q l c s n f m i 162 4 1)):=by kernel_rfl
theorem adk [Env] (A:Nat→List SV→Prop) (Q:V→St→Prop) (l:List af) (c:an) (s:List (List UInt8)) (n:Nat) (f:Nat→V) (m i:Int):WL Tryz.prog 30 Tryz.f30 eG 0 dS A Q 0 [.val (ae af.enc 3 l),.val (.iface 163 (an.enc c)),.row n f 3,.val (ae V.str 1 s),.val (ae V.str 1 s),.val (.int .i64 m),.val (.int .i64 i)]=
  ((qq A Q l c s n f m i 163 5 1)):=by kernel_rfl
theorem UL [Env] (A:Nat→List SV→Prop) (Q:V→St→Prop) (l:List af) (c:an) (s:List (List UInt8)) (n:Nat) (f:Nat→V) (m i:Int):WL Tryz.prog 30 Tryz.f30 eG 0 dS A Q 0 [.val (ae af.enc 3 l),.val (.iface 164 (an.enc c)),.row n f 3,.val (ae V.str 1 s),.val (ae V.str 1 s),.val (.int .i64 m),.val (.int .i64 i)]=
  ((qq A Q l c s n f m i 164 6 2)):=by kernel_rfl
end Go.Proofs.YtbajncpfmemdgaaGreatDoor
end
section
namespace Go.Proofs.YtbajncpfmemdgaaGreatDoor
open Go Go.Ev
abbrev yw [Env] (A:Nat→List SV→Prop) (Q:V→St→Prop) (l:List af) (c:an) (s:List (List UInt8)) (n:Nat) (T:List af) (m i:Int) (p0:Nat):Prop:=
 (∃b0:List aj,[ae aj.enc 7 ((T.getD i.toNat default).f2)]=[ae aj.enc 7 b0]∧(0<b0.length∧b0.length≤1000)∧((0≤i∧i<((n:Nat):Int))∧(i.toNat<n∧((n=n∧3=3)∧A 1 [.val (ae af.enc 3 l),.val (.iface p0 (an.enc c)),.val (ae V.str 1 s),.row n (e9 (fun i=>af.enc (T.getD i default)) i.toNat (.agg [.str ((T.getD i.toNat default).f0),.int .i64 ((T.getD i.toNat default).f1),ae aj.enc 7 b0])) 3,.al 0 n 3,.val (.int .i64 m),.val (.int .i64 (IntKind.i64.wrap (i+(1:Int))))]))))
abbrev rA [Env] (A:Nat→List SV→Prop) (Q:V→St→Prop) (l:List af) (c:an) (s:List (List UInt8)) (n:Nat) (T:List af) (m i:Int) (p0:Nat):Prop:=
 ((.i64:IntKind)=.i64∧aa (decide (i<m)) (((0≤i∧i<((n:Nat):Int))∧(i.toNat<n∧(∃(b0:List af) (b1:List UInt8),[ae af.enc 3 l,.str ((T.getD i.toNat default).f0)]=[ae af.enc 3 b0,.str b1]∧b0.length≤1000000∧((.i64:IntKind)=.i64∧aa (decide ((aS b0 b1)≥(0:Int))) ((∃b2:an,([.iface p0 (an.enc c)]:List V)=[.iface p0 (an.enc b2)]∧((p0:TypeId)=159∨(p0:TypeId)=160∨(p0:TypeId)=161∨(p0:TypeId)=162∨(p0:TypeId)=163∨(p0:TypeId)=164)∧(∃b3:Nat→List UInt8,(fun i=>V.str (s.getD i default))=(fun i=>V.str (b3 i))∧s.length≤1000000∧aa ((!(decide (0≤ct ((T.getD i.toNat default).f0) b3 s.length)))) (Q (.tuple [.ak,.int .i64 (12:Int)]) ⟨(St.new (St.new Go.Ev.start 0 (.row n (fun i=>af.enc (T.getD i default)) 3 false)) 1 (.cells 3 [] (ai (af.cells (T.getD i.toNat default)) .leaf 0) true false)).heap,2⟩) ((yw A Q l c s n T m i p0))))) ((yw A Q l c s n T m i p0))))))) (Q (.tuple [.own 0 n 3,.int .i64 (0:Int)]) ⟨(St.new Go.Ev.start 0 (.row n (fun i=>af.enc (T.getD i default)) 3 false)).heap,1⟩))
theorem adl [Env] (A:Nat→List SV→Prop) (Q:V→St→Prop) (l:List af) (c:an) (s:List (List UInt8)) (n:Nat) (T:List af) (m i:Int):WL Tryz.prog 30 Tryz.f30 eG 0 dS A Q 1 [.val (ae af.enc 3 l),.val (.iface 159 (an.enc c)),.val (ae V.str 1 s),.row n (fun i=>af.enc (T.getD i default)) 3,.al 0 n 3,.val (.int .i64 m),.val (.int .i64 i)]=
  (((.i64:IntKind)=.i64∧aa (decide (i<m)) (((0≤i∧i<((n:Nat):Int))∧(i.toNat<n∧(∃(SZ:List af) (abE:List UInt8),[ae af.enc 3 l,.str ((T.getD i.toNat default).f0)]=[ae af.enc 3 SZ,.str abE]∧SZ.length≤1000000∧((.i64:IntKind)=.i64∧aa (decide ((aS SZ abE)≥(0:Int))) ((∃ah4:an,([.iface 159 (an.enc c)]:List V)=[.iface 159 (an.enc ah4)]∧((159:TypeId)=159∨(159:TypeId)=160∨(159:TypeId)=161∨(159:TypeId)=162∨(159:TypeId)=163∨(159:TypeId)=164)∧Q (.tuple [.ak,.int .i64 (12:Int)]) ⟨(St.new (St.new Go.Ev.start 0 (.row n (fun i=>af.enc (T.getD i default)) 3 false)) 1 (.cells 3 [] (ai (af.cells (T.getD i.toNat default)) .leaf 0) true false)).heap,2⟩)) ((∃M3:List aj,[ae aj.enc 7 ((T.getD i.toNat default).f2)]=[ae aj.enc 7 M3]∧(0<M3.length∧M3.length≤1000)∧((0≤i∧i<((n:Nat):Int))∧(i.toNat<n∧((n=n∧3=3)∧A 1 [.val (ae af.enc 3 l),.val (.iface 159 (an.enc c)),.val (ae V.str 1 s),.row n (e9 (fun i=>af.enc (T.getD i default)) i.toNat (.agg [.str ((T.getD i.toNat default).f0),.int .i64 ((T.getD i.toNat default).f1),ae aj.enc 7 M3])) 3,.al 0 n 3,.val (.int .i64 m),.val (.int .i64 (IntKind.i64.wrap (i+(1:Int))))])))))))))) (Q (.tuple [.own 0 n 3,.int .i64 (0:Int)]) ⟨(St.new Go.Ev.start 0 (.row n (fun i=>af.enc (T.getD i default)) 3 false)).heap,1⟩))):=by kernel_rfl
theorem adm [Env] (A:Nat→List SV→Prop) (Q:V→St→Prop) (l:List af) (c:an) (s:List (List UInt8)) (n:Nat) (T:List af) (m i:Int):WL Tryz.prog 30 Tryz.f30 eG 0 dS A Q 1 [.val (ae af.enc 3 l),.val (.iface 160 (an.enc c)),.val (ae V.str 1 s),.row n (fun i=>af.enc (T.getD i default)) 3,.al 0 n 3,.val (.int .i64 m),.val (.int .i64 i)]=
  ((rA A Q l c s n T m i 160)):=by kernel_rfl
theorem adn [Env] (A:Nat→List SV→Prop) (Q:V→St→Prop) (l:List af) (c:an) (s:List (List UInt8)) (n:Nat) (T:List af) (m i:Int):WL Tryz.prog 30 Tryz.f30 eG 0 dS A Q 1 [.val (ae af.enc 3 l),.val (.iface 161 (an.enc c)),.val (ae V.str 1 s),.row n (fun i=>af.enc (T.getD i default)) 3,.al 0 n 3,.val (.int .i64 m),.val (.int .i64 i)]=
  ((rA A Q l c s n T m i 161)):=by kernel_rfl
theorem ado [Env] (A:Nat→List SV→Prop) (Q:V→St→Prop) (l:List af) (c:an) (s:List (List UInt8)) (n:Nat) (T:List af) (m i:Int):WL Tryz.prog 30 Tryz.f30 eG 0 dS A Q 1 [.val (ae af.enc 3 l),.val (.iface 162 (an.enc c)),.val (ae V.str 1 s),.row n (fun i=>af.enc (T.getD i default)) 3,.al 0 n 3,.val (.int .i64 m),.val (.int .i64 i)]=
  ((rA A Q l c s n T m i 162)):=by kernel_rfl
theorem adp [Env] (A:Nat→List SV→Prop) (Q:V→St→Prop) (l:List af) (c:an) (s:List (List UInt8)) (n:Nat) (T:List af) (m i:Int):WL Tryz.prog 30 Tryz.f30 eG 0 dS A Q 1 [.val (ae af.enc 3 l),.val (.iface 163 (an.enc c)),.val (ae V.str 1 s),.row n (fun i=>af.enc (T.getD i default)) 3,.al 0 n 3,.val (.int .i64 m),.val (.int .i64 i)]=
  ((rA A Q l c s n T m i 163)):=by kernel_rfl
theorem adq [Env] (A:Nat→List SV→Prop) (Q:V→St→Prop) (l:List af) (c:an) (s:List (List UInt8)) (n:Nat) (T:List af) (m i:Int):WL Tryz.prog 30 Tryz.f30 eG 0 dS A Q 1 [.val (ae af.enc 3 l),.val (.iface 164 (an.enc c)),.val (ae V.str 1 s),.row n (fun i=>af.enc (T.getD i default)) 3,.al 0 n 3,.val (.int .i64 m),.val (.int .i64 i)]=
  ((rA A Q l c s n T m i 164)):=by kernel_rfl
def W30 [Env] (vs:List V) (σ:St) (k:ah):Prop:=
 ∃(l:List af) (c:an),vs=[ae af.enc 3 l,an.enc c]∧(gL c∧c.f7.length≤1000000∧∀t∈l,e8 t)∧k (.tuple [ae af.enc 3 (gq l c),.int .i64 (gf l c)]) σ
def UM [Env]:=kS 30 W30 eG
end Go.Proofs.YtbajncpfmemdgaaGreatDoor
end
section
namespace Go.Proofs.YtbajncpfmemdgaaGreatDoor
open Go Go.Ev Go.IntWalk
theorem F309:bl Tryz.prog 309 Tryz.f309:=.of (by kernel_rfl) (by kernel_rfl)
theorem F30:bl Tryz.prog 30 Tryz.f30:=.of (by kernel_rfl) (by kernel_rfl)
theorem mn {t:af} {s:List UInt8} {d:Int} {i:Nat} (h:aB t s=i) (hi:i<t.f2.length):
  bu t.f2.length (e9 (e9 (fun j=>aj.enc (t.f2.getD j default)) i (aj.enc ⟨(t.f2.getD i default).f0,d,(t.f2.getD i default).f2,(t.f2.getD i default).f3⟩)) i (aj.enc (BB (t.f2.getD i default) d))) (wm t s d).f2:=by
 have e:(wm t s d).f2=(t.f2.set i ⟨(t.f2.getD i default).f0,d,(t.f2.getD i default).f2,(t.f2.getD i default).f3⟩).set i (BB (t.f2.getD i default) d):=by
  rw[List.set_set]
  show t.f2.set (aB t s).toNat (BB (t.f2.getD (aB t s).toNat default) d)=_
  rw[h];rfl
 rw[e]
 exact((bu.of t.f2).jb hi _ rfl).jb hi _ rfl
theorem eO {t:af} {s:List UInt8} {i:Nat} (h:aB t s=i):pd t s=t.f2.getD i default:=by
 show t.f2.getD (aB t s).toNat default=_
 rw[h];rfl
section
variable [Env] [aZ] {vs:List V} {σ:St} {k:ah}
theorem S0 (h:UJ vs σ k):ag Tryz.prog 226 vs k σ:=by
 obtain⟨t,s,rfl,hn,hm,h0,h1,h2,h3,h4,h5,h6,h7⟩:=h
 refine Ke ⟨t,s,rfl,by omega,?_⟩
 have hb:=qj t s
 generalize hx:aB t s=x at *
 rcases(show x= -1∨x=0∨x=1∨x=2∨x=3∨x=4∨x=5∨x=6∨x=7 by omega) with rfl | rfl | rfl | rfl | rfl | rfl | rfl | rfl | rfl
 ·exact hm rfl
 ·exact h0 rfl
 ·exact h1 rfl
 ·exact h2 rfl
 ·exact h3 rfl
 ·exact h4 rfl
 ·exact h5 rfl
 ·exact h6 rfl
 ·exact h7 rfl
theorem GC:∀ {f:FuncId} {vs:List V} {σ:St} {k:ah},Dw f vs σ k→ag Tryz.prog f vs k σ:=fun h=>aH S0 SY h
set_option maxRecDepth 100000 in
theorem W7 (h:abC vs σ k):ag Tryz.prog 309 vs k σ:=by
 obtain⟨c,l,hf,⟨hc,h0,_,hl,_,ht⟩,hk,eV⟩:=h
 have ho:xL σ k _ _:=⟨hk,eV⟩
 obtain⟨ou,uN⟩:=ht _ (bn (show 0<l.length by omega))
 have hlen:0<(l.getD 0 default).f2.length∧(l.getD 0 default).f2.length≤8∧1≤(l.getD 0 default).f1:=by have:=(oo uN).1;obtain⟨_,h1,h2,_⟩:=this;omega
 refine ag.nE hf (F309.ck (live:=Kx) (call:=Dw) (fun h=>GC h) (by kernel_rfl) ?_)
 rw[SB h0 (l.getD 0 default),MO h0 (l.getD 0 default) (l.getD 1 default)] at ho
 have hca:=qj (l.getD 0 default) c.f5
 rw[ah2];unfold ry
 refine⟨⟨by omega,by omega⟩,_,_,rfl,hlen.2.1,fun h=>⟨rfl,aq (fun a1=>ho.err (lB (by omega)) (by decide)) fun a1=>absurd (show(-1:Int)<(l.getD 0 default).f1 by omega) a1⟩,?_,?_,?_,?_,?_,?_,?_,?_⟩
 ·intro h
  have hh:aB (l.getD 0 default) c.f5=((0:Nat):Int):=h
  have hi:0<(l.getD 0 default).f2.length:=by omega
  refine⟨rfl,aq (fun a1=>ho.err (lB (by rw[h];exact a1)) (by decide)) fun a1=>⟨⟨by omega,by omega⟩,aa.mk (fun a2=>ho.err (mZ (by rw[h];exact a1) ?_) (by decide)) fun a2=>⟨(l.getD 0 default).f2,rfl,⟨by omega,by omega⟩,⟨by omega,by omega⟩,by omega,by omega,ou _ (bn hi),by omega,_,_,fq (p:=false) (by rfl) (mn hh hi),ho.one rfl (lC (by rw[h];exact a1) ?_)⟩⟩⟩
  ·rw[Bool.not_eq_true'] at a2;rw[eO hh];exact a2
  ·rw[Bool.not_eq_false'] at a2;rw[eO hh];exact a2
 ·intro h
  have hh:aB (l.getD 0 default) c.f5=((1:Nat):Int):=h
  have hi:1<(l.getD 0 default).f2.length:=by omega
  refine⟨rfl,aq (fun a1=>ho.err (lB (by rw[h];exact a1)) (by decide)) fun a1=>⟨⟨by omega,by omega⟩,aa.mk (fun a2=>ho.err (mZ (by rw[h];exact a1) ?_) (by decide)) fun a2=>⟨(l.getD 0 default).f2,rfl,⟨by omega,by omega⟩,⟨by omega,by omega⟩,by omega,by omega,ou _ (bn hi),by omega,_,_,fq (p:=false) (by rfl) (mn hh hi),ho.one rfl (lC (by rw[h];exact a1) ?_)⟩⟩⟩
  ·rw[Bool.not_eq_true'] at a2;rw[eO hh];exact a2
  ·rw[Bool.not_eq_false'] at a2;rw[eO hh];exact a2
 ·intro h
  have hh:aB (l.getD 0 default) c.f5=((2:Nat):Int):=h
  have hi:2<(l.getD 0 default).f2.length:=by omega
  refine⟨rfl,aq (fun a1=>ho.err (lB (by rw[h];exact a1)) (by decide)) fun a1=>⟨⟨by omega,by omega⟩,aa.mk (fun a2=>ho.err (mZ (by rw[h];exact a1) ?_) (by decide)) fun a2=>⟨(l.getD 0 default).f2,rfl,⟨by omega,by omega⟩,⟨by omega,by omega⟩,by omega,by omega,ou _ (bn hi),by omega,_,_,fq (p:=false) (by rfl) (mn hh hi),ho.one rfl (lC (by rw[h];exact a1) ?_)⟩⟩⟩
  ·rw[Bool.not_eq_true'] at a2;rw[eO hh];exact a2
  ·rw[Bool.not_eq_false'] at a2;rw[eO hh];exact a2
 ·intro h
  have hh:aB (l.getD 0 default) c.f5=((3:Nat):Int):=h
  have hi:3<(l.getD 0 default).f2.length:=by omega
  refine⟨rfl,aq (fun a1=>ho.err (lB (by rw[h];exact a1)) (by decide)) fun a1=>⟨⟨by omega,by omega⟩,aa.mk (fun a2=>ho.err (mZ (by rw[h];exact a1) ?_) (by decide)) fun a2=>⟨(l.getD 0 default).f2,rfl,⟨by omega,by omega⟩,⟨by omega,by omega⟩,by omega,by omega,ou _ (bn hi),by omega,_,_,fq (p:=false) (by rfl) (mn hh hi),ho.one rfl (lC (by rw[h];exact a1) ?_)⟩⟩⟩
  ·rw[Bool.not_eq_true'] at a2;rw[eO hh];exact a2
  ·rw[Bool.not_eq_false'] at a2;rw[eO hh];exact a2
 ·intro h
  have hh:aB (l.getD 0 default) c.f5=((4:Nat):Int):=h
  have hi:4<(l.getD 0 default).f2.length:=by omega
  refine⟨rfl,aq (fun a1=>ho.err (lB (by rw[h];exact a1)) (by decide)) fun a1=>⟨⟨by omega,by omega⟩,aa.mk (fun a2=>ho.err (mZ (by rw[h];exact a1) ?_) (by decide)) fun a2=>⟨(l.getD 0 default).f2,rfl,⟨by omega,by omega⟩,⟨by omega,by omega⟩,by omega,by omega,ou _ (bn hi),by omega,_,_,fq (p:=false) (by rfl) (mn hh hi),ho.one rfl (lC (by rw[h];exact a1) ?_)⟩⟩⟩
  ·rw[Bool.not_eq_true'] at a2;rw[eO hh];exact a2
  ·rw[Bool.not_eq_false'] at a2;rw[eO hh];exact a2
 ·intro h
  have hh:aB (l.getD 0 default) c.f5=((5:Nat):Int):=h
  have hi:5<(l.getD 0 default).f2.length:=by omega
  refine⟨rfl,aq (fun a1=>ho.err (lB (by rw[h];exact a1)) (by decide)) fun a1=>⟨⟨by omega,by omega⟩,aa.mk (fun a2=>ho.err (mZ (by rw[h];exact a1) ?_) (by decide)) fun a2=>⟨(l.getD 0 default).f2,rfl,⟨by omega,by omega⟩,⟨by omega,by omega⟩,by omega,by omega,ou _ (bn hi),by omega,_,_,fq (p:=false) (by rfl) (mn hh hi),ho.one rfl (lC (by rw[h];exact a1) ?_)⟩⟩⟩
  ·rw[Bool.not_eq_true'] at a2;rw[eO hh];exact a2
  ·rw[Bool.not_eq_false'] at a2;rw[eO hh];exact a2
 ·intro h
  have hh:aB (l.getD 0 default) c.f5=((6:Nat):Int):=h
  have hi:6<(l.getD 0 default).f2.length:=by omega
  refine⟨rfl,aq (fun a1=>ho.err (lB (by rw[h];exact a1)) (by decide)) fun a1=>⟨⟨by omega,by omega⟩,aa.mk (fun a2=>ho.err (mZ (by rw[h];exact a1) ?_) (by decide)) fun a2=>⟨(l.getD 0 default).f2,rfl,⟨by omega,by omega⟩,⟨by omega,by omega⟩,by omega,by omega,ou _ (bn hi),by omega,_,_,fq (p:=false) (by rfl) (mn hh hi),ho.one rfl (lC (by rw[h];exact a1) ?_)⟩⟩⟩
  ·rw[Bool.not_eq_true'] at a2;rw[eO hh];exact a2
  ·rw[Bool.not_eq_false'] at a2;rw[eO hh];exact a2
 ·intro h
  have hh:aB (l.getD 0 default) c.f5=((7:Nat):Int):=h
  have hi:7<(l.getD 0 default).f2.length:=by omega
  refine⟨rfl,aq (fun a1=>ho.err (lB (by rw[h];exact a1)) (by decide)) fun a1=>⟨⟨by omega,by omega⟩,aa.mk (fun a2=>ho.err (mZ (by rw[h];exact a1) ?_) (by decide)) fun a2=>⟨(l.getD 0 default).f2,rfl,⟨by omega,by omega⟩,⟨by omega,by omega⟩,by omega,by omega,ou _ (bn hi),by omega,_,_,fq (p:=false) (by rfl) (mn hh hi),ho.one rfl (lC (by rw[h];exact a1) ?_)⟩⟩⟩
  ·rw[Bool.not_eq_true'] at a2;rw[eO hh];exact a2
  ·rw[Bool.not_eq_false'] at a2;rw[eO hh];exact a2
theorem S1:∀ {f:FuncId} {vs:List V} {σ:St} {k:ah},UK f vs σ k→ag Tryz.prog f vs k σ:=fun h=>aH W7 GC h
theorem W8 (h:abD vs σ k):ag Tryz.prog 74 vs k σ:=by
 obtain⟨l,rfl,hn,h⟩:=h
 refine ag.aQ (us:=[ae aj.enc 7 l]) (av (fg l) aM) (bW.imp (us:=[Ls aj.enc 7 l]) (fun ρ xs hx=>?_) (F74.ck (live:=FZ) (call:=FY) (fun h=>BG h) (by kernel_rfl) ?_))
 ·cases hx with
  | cons h1 h2=>exact .cons (Pa hn.1 h1) h2
 ·rw[e74]
  exact aq (fun h1=>by omega) fun h1=>⟨by omega,bd.fZ (.own (g:=fun i=>aj.enc (l.getD i default)) (p:=true) (by rfl) (fun i hi=>g8 (aj.clean _)) fun i hi=>rfl) h⟩
theorem kF:∀ {f:FuncId} {vs:List V} {σ:St} {k:ah},eG f vs σ k→ag Tryz.prog f vs k σ:=fun h=>aH W8 S1 h
end
end Go.Proofs.YtbajncpfmemdgaaGreatDoor
end
