/- Proved: parts of the way: BD9, BEq26, Awk10T0, Awk10T1, Awk10Run, BD10, Typed. -/
import Derived.Test.YtbajncpfmemdgaaGreatDoorEvQ26
import Derived.Test.YtbajncpfmemdgaaGreatDoorProg
import Derived.Test.YtbajncpfmemdgaaGreatDoorEvQ11
import Derived.ProofKit
import Derived.Test.YtbajncpfmemdgaaGreatDoorEvQ14
section
namespace Go.Proofs.YtbajncpfmemdgaaGreatDoor
open Go Go.Ev Go.IntWalk
def fM (n:Nat) (f:Nat→V) (l:List af):Prop:=n=l.length∧∀i,i<n→f i=af.enc (l.getD i default)
theorem fM.one (x:af):fM 1 (fun _=>.agg (af.cells x)) [x]:=⟨rfl,fun i hi=>by
 obtain rfl:=Nat.lt_one_iff.1 hi
 rfl⟩
theorem fM.push {n:Nat} {f:Nat→V} {l:List af} (h:fM n f l) (x:af):fM (n+1) (dL n f fun _=>.agg (af.cells x)) (l++[x]):=by
 obtain⟨rfl,h2⟩:=h
 refine⟨by simp,fun i hi=>?_⟩
 by_cases e:i=l.length
 ·subst e;rw[Ba];simp [List.getD_eq_getElem?_getD];rfl
 ·rw[A9 _ _ (by omega),h2 i (by omega)]
  simp [List.getD_eq_getElem?_getD,List.getElem?_append_left (show i<l.length by omega)]
theorem fM.cl [Env] {n:Nat} {f:Nat→V} {l:List af} (h:fM n f l):∀i,i<n→∀u∈(f i).cells,Go.Ev.Clean u:=fun i hi u hu=>by
 rw[h.2 i hi] at hu;exact af.clean _ u hu
theorem mo {f:Nat→V} {i:Nat} {v:V} (h:v=f i):e9 f i v=f:=funext fun j=>by
 by_cases e:j=i
 ·subst e;rw[wY,h]
 ·rw[wZ _ _ e]
theorem M4 {c:an} (h:1≤c.f0∧c.f0≤5) (t u u':af):kE c t u=kE c t u':=by
 rcases(show c.f0=1∨c.f0=2∨c.f0=3∨c.f0=4∨c.f0=5 by omega) with h | h | h | h | h
 ·exact(yq h t u).trans (yq h t u').symm
 ·exact(MN h t u).trans (MN h t u').symm
 ·exact(BK h t u).trans (BK h t u').symm
 ·exact(MO h t u).trans (MO h t u').symm
 ·exact(MP h t u).trans (MP h t u').symm
def UN (x:af):Prop:=0<x.f2.length∧x.f2.length≤1000
theorem nJ {c:an} {t u:af} (hr:¬(c.f0<1∨6<c.f0)) (h:kE c t u=0) (ht:c.f0≠1→bR t=0):∀x∈kT c t,UN x:=by
 have g:∀ {x:af},bR x=0→0<x.f2.length∧x.f2.length≤8∧1≤x.f1:=fun h=>by have:=(oo h).1;obtain⟨_,h1,h2,_⟩:=this;omega
 rcases(show c.f0=1∨c.f0=2∨c.f0=3∨c.f0=4∨c.f0=5∨c.f0=6 by omega) with h0 | h0 | h0 | h0 | h0 | h0
 ·rw[Gi h0];rw[yq h0] at h
  intro x hx
  rw[List.mem_singleton.1 hx]
  have:=g h
  exact⟨by omega,by omega⟩
 ·rw[Sz h0]
  have:=g (ht (by omega))
  intro x hx
  rw[List.mem_singleton.1 hx]
  have e:(BA t c.f8).f2.length=t.f2.length+1:=by show(t.f2++[c.f8]).length=_;simp
  exact⟨by omega,by omega⟩
 ·rw[SA h0];rw[BK h0] at h
  have:=g (ht (by omega))
  intro x hx
  rw[List.mem_singleton.1 hx]
  have hk:¬aB t c.f5<t.f1:=fun h'=>by unfold Mt at h;rw[if_pos h'] at h;cases h
  have h1:(w9 t c.f5).f2≠[]:=sB (decide_eq_true (by omega)) _ (by omega)
  have h2:=lY (fun i=>decide ((i:Int)≠aB t c.f5)) (fun i=>t.f2.getD i default) t.f2.length
  exact⟨List.length_pos_iff.2 h1,Nat.le_trans h2 (by omega)⟩
 ·rw[SB h0]
  have:=g (ht (by omega))
  intro x hx
  rw[List.mem_singleton.1 hx]
  have e:(wm t c.f5 c.f6).f2.length=t.f2.length:=by show(t.f2.set _ _).length=_;simp
  exact⟨by omega,by omega⟩
 ·rw[SC h0]
  have:=g (ht (by omega))
  have bS:∀b,dD t c b t.f2.length≠[]:=fun b=>sB (kA (by omega)) _ (by omega)
  have hle:∀b,(dD t c b t.f2.length).length≤t.f2.length:=fun b=>lY _ _ _
  intro x hx
  rcases List.mem_cons.1 hx with rfl | hx
  ·exact⟨List.length_pos_iff.2 (bS true),Nat.le_trans (hle true) (by omega)⟩
  ·rw[List.mem_singleton.1 hx]
   exact⟨List.length_pos_iff.2 (bS false),Nat.le_trans (hle false) (by omega)⟩
 ·rw[SD h0]
  have:=g (ht (by omega))
  intro x hx
  rw[List.mem_singleton.1 hx]
  exact⟨by show 0<t.f2.length;omega,by show t.f2.length≤1000;omega⟩
noncomputable def adr (l:List af) (S:List (List UInt8)) (i:Nat):List af:=(S.take i).map (aD l)
def mq (l:List af) (c:an) (ty:TypeId) (S:List (List UInt8)):Nat→List SV→Prop
 | 0,ss=>cG l=0∧∃i:Nat,i≤S.length∧(∀j,j<i→¬m0 l S j)∧((i=0∧ss=[.val (ae af.enc 3 l),.val (.iface ty (an.enc c)),.val .ak,.val (ae V.str 1 S),.val (ae V.str 1 S),.val (.int .i64 ((S.length:Nat):Int)),.val (.int .i64 (i:Int))])∨
   ∃n f,0<i∧fM n f (adr l S i)∧ss=[.val (ae af.enc 3 l),.val (.iface ty (an.enc c)),.row n f 3,.val (ae V.str 1 S),.val (ae V.str 1 S),.val (.int .i64 ((S.length:Nat):Int)),.val (.int .i64 (i:Int))])
 | 1,ss=>(cG l=0∧fp l S=0∧kE c (aD l c.f1) (aD l c.f2)=0)∧∃(i:Nat) (T:List af),T=kT c (aD l c.f1)∧i≤T.length∧(∀j,j<i→¬oG l S T j)∧
   ss=[.val (ae af.enc 3 l),.val (.iface ty (an.enc c)),.val (ae V.str 1 S),.row T.length (fun j=>af.enc (T.getD j default)) 3,.al 0 T.length 3,.val (.int .i64 ((T.length:Nat):Int)),.val (.int .i64 (i:Int))]
 | _,_=>False
def Ky (S:List (List UInt8)):Nat→List SV→Nat
 | 0,ss=>10+(S.length-cb ss)
 | _,ss=>2-cb ss
section
variable [Env]
theorem mq.clean {l:List af} {c:an} {ty:TypeId} {S:List (List UInt8)}:∀k ss,mq l c ty S k ss→∀s∈ss,s.clean
 | 0,_,⟨_,_,_,_,.inl ⟨_,e⟩⟩=>by subst e;exact aN (cF l) (aN (Go.Ev.Clean.iface c.aJ) (aN Go.Ev.Clean.ak (aN (fh _) (aN (fh _) (aG (aG bG))))))
 | 0,_,⟨_,_,_,_,.inr ⟨_,_,_,hr,e⟩⟩=>by subst e;exact aN (cF l) (aN (Go.Ev.Clean.iface c.aJ) (aN hr.cl (aN (fh _) (aN (fh _) (aG (aG bG))))))
 | 1,_,⟨_,_,_,_,_,_,e⟩=>by subst e;exact aN (cF l) (aN (Go.Ev.Clean.iface c.aJ) (aN (fh _) (aN (fun _ _=>af.clean _) (aN trivial (aG (aG bG))))))
 | n+2,_,h=>h.elim
theorem hU {τ:St} {b n:Nat} {f:Nat→V} {p:Bool} {L:List af} (hb:τ.heap.get b=some (.row n f 3 p)) (hr:fM n f L):ey τ (.own b n 3) (ae af.enc 3 L):=by
 obtain⟨rfl,h⟩:=hr
 exact .own (g:=fun i=>af.enc (L.getD i default)) hb (fun i hi=>by rw[h i hi];exact g8 (af.clean _)) fun i hi=>rfl
omit [Env] in
theorem fM.of (l:List af):fM l.length (fun i=>af.enc (l.getD i default)) l:=⟨rfl,fun _ _=>rfl⟩
variable [aZ] {vs:List V} {σ:St} {k:ah}
set_option maxRecDepth 100000 in
theorem ads {l:List af} {c:an} (hr:c.f0=2) (hS:bt c=[c.f1]) (hc:gL c) (ic:c.f7.length≤1000000) (ht:∀t∈l,e8 t) (hk:k (.tuple [ae af.enc 3 (gq l c),.int .i64 (gf l c)]) σ):bW Tryz.prog 30 [ae af.enc 3 l,an.enc c] (bd σ k) Go.Ev.start:=by
 have ei:¬(c.f0<1∨6<c.f0):=by omega
 refine F30.jR (live:=dS) (call:=eG) (fun h=>kF h) 2 (by kernel_rfl) Nat.lt_wfRel.wf (Ky [c.f1]) (mq l c 160 [c.f1]) mq.clean ?_ ?_
 ·rw[GB];unfold qp
  refine⟨c,rfl,?_,?_,?_,?_,?_,?_,?_⟩<;>intro h0
  all_goals first
   | (exfalso;omega)
   | exact⟨l,rfl,fun t h=>e8.ga (ht t h),rfl,aq (fun a=>cA hk (pf a) a) fun a=>⟨c,rfl,Decidable.not_not.1 a,0,Nat.zero_le _,fun j hj=>absurd hj (Nat.not_lt_zero j),.inl ⟨rfl,rfl⟩⟩⟩
 ·intro j hj ss hI
  have lh:=ov c (aD l c.f1)
  match j,hI with
  | 0,hI=>
   obtain⟨g1,i,hi,hm,⟨rfl,rfl⟩ | ⟨n,f,h0,gN,rfl⟩⟩:=hI
   ·obtain⟨g5,g6⟩:=cY g1
    rw[ada];unfold oH;rw[i64_in (((0:Nat):Int)+1) (by omega)]
    refine⟨rfl,aq (fun a1=>⟨⟨by omega,by show(0:Int)<1;decide⟩,l,c.f1,rfl,by omega,rfl,aq (fun a2=>cA hk ?_ (by decide)) fun a2=>⟨⟨by omega,(dr l c.f1).2⟩,⟨rfl,rfl,rfl⟩,⟨g1,1,Nat.le_refl 1,fun j hj=>?_,.inr ⟨1,_,by omega,fM.one _,rfl⟩⟩,by show 10+(1-(((0:Nat):Int)+1).toNat)<10+(1-((0:Nat):Int).toNat);omega⟩⟩) fun a1=>absurd (show(0:Int)<1 by decide) a1⟩
    ·have:=kD (l:=l) (ss:=bt c) (i:=0) (by rw[hS];exact Nat.zero_lt_succ _) (by rw[hS];exact a2) fun j hj=>absurd hj (Nat.not_lt_zero j)
     exact(qW g1 ei (by rw[this];decide)).trans this
    ·obtain rfl:=Nat.lt_one_iff.1 hj;exact a2
   ·obtain rfl:i=1:=by have:i≤1:=hi;omega
    obtain⟨g5,g6⟩:=cY g1
    have rS:¬aS l c.f1<0:=hm 0 (by omega)
    have m3:fp l (bt c)=0:=nG fun j hj=>by rw[hS] at hj⊢;exact hm j hj
    have cZ:aD l c.f1∈l:=bn (by have:=dr l c.f1;omega)
    have gN:fM n f [aD l c.f1]:=gN
    have hu:=M4 (c:=c) (by omega) (aD l c.f1) default (aD l c.f2)
    rw[adh];unfold qq
    refine⟨rfl,aq (fun a1=>absurd (show(1:Int)<1 from a1) (by decide)) fun a1=>⟨c,[aD l c.f1],.cons (.clean c.aJ) (.cons (hU (p:=false) (by rfl) gN) .nil),⟨hc,hr,ic,Nat.le_refl _,by show 1≤16;decide,fun t h=>?_⟩,fun h0=>⟨rfl,⟨rfl,rfl⟩,⟨⟨g1,by rw[←hS];exact m3,by rw[←hu];exact h0⟩,0,_,rfl,Nat.zero_le _,fun j hj=>absurd hj (Nat.not_lt_zero j),rfl⟩,by show 2-(0:Int).toNat<10+_;have:(0:Int).toNat=0:=rfl;omega⟩,fun h0=>⟨rfl,aq (fun a=>?_) fun a=>absurd h0 a⟩⟩⟩
    ·rw[List.mem_singleton.1 h];exact⟨ht _ cZ,g6 _ cZ⟩
    ·have h0:kE c (aD l c.f1) default≠0:=h0
     exact cA hk (by rw[qX g1 ei m3 (by rw[←hu];exact h0),←hu]) h0
  | 1,hI=>
   obtain⟨⟨g1,g3,g4⟩,i,T,rfl,hi,hm,rfl⟩:=hI
   obtain⟨g5,g6⟩:=cY g1
   have kX:fp l (bt c)=0:=by rw[hS];exact g3
   obtain⟨f1,_⟩:=qn ei (fun j hj=>fun h=>by
    have h:aS l ((bt c).getD j default)<0:=h
    have:=(cM (fun i=>if aS l ((bt c).getD i default)<0 then(9:Int) else 0) _).1 kX j hj
    rw[if_pos h] at this;cases this)
   have cZ:aD l c.f1∈l:=bn (by have h1:=dr l c.f1;have h2:=f1 (by omega);omega)
   have iY:=nJ ei g4 fun _=>g6 _ cZ
   generalize hT:kT c (aD l c.f1)=T at *
   have go:¬oG l [c.f1] T i→i<T.length→mq l c 160 [c.f1] 1 [.val (ae af.enc 3 l),.val (.iface 160 (an.enc c)),.val (ae V.str 1 [c.f1]),.row T.length (e9 (fun j=>af.enc (T.getD j default)) i (.agg [.str ((T.getD i default).f0),.int .i64 ((T.getD i default).f1),ae aj.enc 7 ((T.getD i default).f2)])) 3,.al 0 T.length 3,.val (.int .i64 ((T.length:Nat):Int)),.val (.int .i64 (IntKind.i64.wrap ((i:Int)+1)))]∧
     2-(IntKind.i64.wrap ((i:Int)+1)).toNat<2-(i:Int).toNat:=fun h1 h2=>by
    have hu:e9 (fun j=>af.enc (T.getD j default)) i (.agg [.str ((T.getD i default).f0),.int .i64 ((T.getD i default).f1),ae aj.enc 7 ((T.getD i default).f2)])=fun j=>af.enc (T.getD j default):=mo rfl
    rw[i64_in ((i:Int)+1) (by omega),hu]
    refine⟨⟨⟨g1,g3,g4⟩,i+1,T,hT.symm,by omega,fun j hj=>?_,rfl⟩,by omega⟩
    by_cases e:j=i
    ·subst e;exact h1
    ·exact hm j (by omega)
   rw[adm];unfold rA yw
   refine⟨rfl,aq (fun a1=>⟨⟨by omega,by omega⟩,by omega,l,_,rfl,by omega,rfl,aq (fun a2=>⟨c,rfl,.inr (.inl rfl),_,rfl,by show(1:Nat)≤1000000;omega,aa.mk (fun a3=>cA hk ?_ (by decide)) fun a3=>⟨_,rfl,iY _ (bn (show i<T.length by omega)),⟨by omega,by omega⟩,by omega,⟨rfl,rfl⟩,go (fun h=>?_) (by omega)⟩⟩) fun a2=>⟨_,rfl,iY _ (bn (show i<T.length by omega)),⟨by omega,by omega⟩,by omega,⟨rfl,rfl⟩,go (fun h=>a2 h.1) (by omega)⟩⟩) fun a1=>?_⟩
   ·rw[dJ] at a3
    have h3:¬ 0≤kW [c.f1] (T.getD i default).f0:=fun h=>by
     rw[show decide (0≤ct _ _ _)=true from decide_eq_true h] at a3;cases a3
    have:=nH (l:=l) (ss:=bt c) (o:=T) (i:=i) (by omega) ⟨a2,by rw[hS];omega⟩ (by rw[hS];exact hm)
    rw[j4 g1 ei kX g4,hT];exact this
   ·rw[dJ] at a3
    have h3:kW [c.f1] (T.getD i default).f0<0:=h.2
    have h4:¬ 0≤kW [c.f1] (T.getD i default).f0:=by omega
    rw[show decide (0≤ct _ _ _)=false from decide_eq_false h4] at a3;cases a3
   ·obtain rfl:i=T.length:=by omega
    have hz:gf l c=0:=by rw[j4 g1 ei kX g4,hT];exact qm (by rw[hS];exact hm)
    have e':gq l c=T:=(if_pos hz).trans hT
    rw[e',hz] at hk
    exact bd.kC (.cons (hU (p:=false) (by rfl) (fM.of T)) (.cons (.int _ _) .nil)) hk
  | n+2,hI=>exact hI.elim
set_option maxRecDepth 100000 in
theorem adt {l:List af} {c:an} (hr:c.f0=3) (hS:bt c=[c.f1]) (hc:gL c) (ic:c.f7.length≤1000000) (ht:∀t∈l,e8 t) (hk:k (.tuple [ae af.enc 3 (gq l c),.int .i64 (gf l c)]) σ):bW Tryz.prog 30 [ae af.enc 3 l,an.enc c] (bd σ k) Go.Ev.start:=by
 have ei:¬(c.f0<1∨6<c.f0):=by omega
 refine F30.jR (live:=dS) (call:=eG) (fun h=>kF h) 2 (by kernel_rfl) Nat.lt_wfRel.wf (Ky [c.f1]) (mq l c 161 [c.f1]) mq.clean ?_ ?_
 ·rw[GB];unfold qp
  refine⟨c,rfl,?_,?_,?_,?_,?_,?_,?_⟩<;>intro h0
  all_goals first
   | (exfalso;omega)
   | exact⟨l,rfl,fun t h=>e8.ga (ht t h),rfl,aq (fun a=>cA hk (pf a) a) fun a=>⟨c,rfl,Decidable.not_not.1 a,0,Nat.zero_le _,fun j hj=>absurd hj (Nat.not_lt_zero j),.inl ⟨rfl,rfl⟩⟩⟩
 ·intro j hj ss hI
  have lh:=ov c (aD l c.f1)
  match j,hI with
  | 0,hI=>
   obtain⟨g1,i,hi,hm,⟨rfl,rfl⟩ | ⟨n,f,h0,gN,rfl⟩⟩:=hI
   ·obtain⟨g5,g6⟩:=cY g1
    rw[adb];unfold oH;rw[i64_in (((0:Nat):Int)+1) (by omega)]
    refine⟨rfl,aq (fun a1=>⟨⟨by omega,by show(0:Int)<1;decide⟩,l,c.f1,rfl,by omega,rfl,aq (fun a2=>cA hk ?_ (by decide)) fun a2=>⟨⟨by omega,(dr l c.f1).2⟩,⟨rfl,rfl,rfl⟩,⟨g1,1,Nat.le_refl 1,fun j hj=>?_,.inr ⟨1,_,by omega,fM.one _,rfl⟩⟩,by show 10+(1-(((0:Nat):Int)+1).toNat)<10+(1-((0:Nat):Int).toNat);omega⟩⟩) fun a1=>absurd (show(0:Int)<1 by decide) a1⟩
    ·have:=kD (l:=l) (ss:=bt c) (i:=0) (by rw[hS];exact Nat.zero_lt_succ _) (by rw[hS];exact a2) fun j hj=>absurd hj (Nat.not_lt_zero j)
     exact(qW g1 ei (by rw[this];decide)).trans this
    ·obtain rfl:=Nat.lt_one_iff.1 hj;exact a2
   ·obtain rfl:i=1:=by have:i≤1:=hi;omega
    obtain⟨g5,g6⟩:=cY g1
    have rS:¬aS l c.f1<0:=hm 0 (by omega)
    have m3:fp l (bt c)=0:=nG fun j hj=>by rw[hS] at hj⊢;exact hm j hj
    have cZ:aD l c.f1∈l:=bn (by have:=dr l c.f1;omega)
    have gN:fM n f [aD l c.f1]:=gN
    have hu:=M4 (c:=c) (by omega) (aD l c.f1) default (aD l c.f2)
    rw[adi];unfold qq
    refine⟨rfl,aq (fun a1=>absurd (show(1:Int)<1 from a1) (by decide)) fun a1=>⟨c,[aD l c.f1],.cons (.clean c.aJ) (.cons (hU (p:=false) (by rfl) gN) .nil),⟨hc,hr,ic,Nat.le_refl _,by show 1≤16;decide,fun t h=>?_⟩,fun h0=>⟨rfl,⟨rfl,rfl⟩,⟨⟨g1,by rw[←hS];exact m3,by rw[←hu];exact h0⟩,0,_,rfl,Nat.zero_le _,fun j hj=>absurd hj (Nat.not_lt_zero j),rfl⟩,by show 2-(0:Int).toNat<10+_;have:(0:Int).toNat=0:=rfl;omega⟩,fun h0=>⟨rfl,aq (fun a=>?_) fun a=>absurd h0 a⟩⟩⟩
    ·rw[List.mem_singleton.1 h];exact⟨ht _ cZ,g6 _ cZ⟩
    ·have h0:kE c (aD l c.f1) default≠0:=h0
     exact cA hk (by rw[qX g1 ei m3 (by rw[←hu];exact h0),←hu]) h0
  | 1,hI=>
   obtain⟨⟨g1,g3,g4⟩,i,T,rfl,hi,hm,rfl⟩:=hI
   obtain⟨g5,g6⟩:=cY g1
   have kX:fp l (bt c)=0:=by rw[hS];exact g3
   obtain⟨f1,_⟩:=qn ei (fun j hj=>fun h=>by
    have h:aS l ((bt c).getD j default)<0:=h
    have:=(cM (fun i=>if aS l ((bt c).getD i default)<0 then(9:Int) else 0) _).1 kX j hj
    rw[if_pos h] at this;cases this)
   have cZ:aD l c.f1∈l:=bn (by have h1:=dr l c.f1;have h2:=f1 (by omega);omega)
   have iY:=nJ ei g4 fun _=>g6 _ cZ
   generalize hT:kT c (aD l c.f1)=T at *
   have go:¬oG l [c.f1] T i→i<T.length→mq l c 161 [c.f1] 1 [.val (ae af.enc 3 l),.val (.iface 161 (an.enc c)),.val (ae V.str 1 [c.f1]),.row T.length (e9 (fun j=>af.enc (T.getD j default)) i (.agg [.str ((T.getD i default).f0),.int .i64 ((T.getD i default).f1),ae aj.enc 7 ((T.getD i default).f2)])) 3,.al 0 T.length 3,.val (.int .i64 ((T.length:Nat):Int)),.val (.int .i64 (IntKind.i64.wrap ((i:Int)+1)))]∧
     2-(IntKind.i64.wrap ((i:Int)+1)).toNat<2-(i:Int).toNat:=fun h1 h2=>by
    have hu:e9 (fun j=>af.enc (T.getD j default)) i (.agg [.str ((T.getD i default).f0),.int .i64 ((T.getD i default).f1),ae aj.enc 7 ((T.getD i default).f2)])=fun j=>af.enc (T.getD j default):=mo rfl
    rw[i64_in ((i:Int)+1) (by omega),hu]
    refine⟨⟨⟨g1,g3,g4⟩,i+1,T,hT.symm,by omega,fun j hj=>?_,rfl⟩,by omega⟩
    by_cases e:j=i
    ·subst e;exact h1
    ·exact hm j (by omega)
   rw[adn];unfold rA yw
   refine⟨rfl,aq (fun a1=>⟨⟨by omega,by omega⟩,by omega,l,_,rfl,by omega,rfl,aq (fun a2=>⟨c,rfl,.inr (.inr (.inl rfl)),_,rfl,by show(1:Nat)≤1000000;omega,aa.mk (fun a3=>cA hk ?_ (by decide)) fun a3=>⟨_,rfl,iY _ (bn (show i<T.length by omega)),⟨by omega,by omega⟩,by omega,⟨rfl,rfl⟩,go (fun h=>?_) (by omega)⟩⟩) fun a2=>⟨_,rfl,iY _ (bn (show i<T.length by omega)),⟨by omega,by omega⟩,by omega,⟨rfl,rfl⟩,go (fun h=>a2 h.1) (by omega)⟩⟩) fun a1=>?_⟩
   ·rw[dJ] at a3
    have h3:¬ 0≤kW [c.f1] (T.getD i default).f0:=fun h=>by
     rw[show decide (0≤ct _ _ _)=true from decide_eq_true h] at a3;cases a3
    have:=nH (l:=l) (ss:=bt c) (o:=T) (i:=i) (by omega) ⟨a2,by rw[hS];omega⟩ (by rw[hS];exact hm)
    rw[j4 g1 ei kX g4,hT];exact this
   ·rw[dJ] at a3
    have h3:kW [c.f1] (T.getD i default).f0<0:=h.2
    have h4:¬ 0≤kW [c.f1] (T.getD i default).f0:=by omega
    rw[show decide (0≤ct _ _ _)=false from decide_eq_false h4] at a3;cases a3
   ·obtain rfl:i=T.length:=by omega
    have hz:gf l c=0:=by rw[j4 g1 ei kX g4,hT];exact qm (by rw[hS];exact hm)
    have e':gq l c=T:=(if_pos hz).trans hT
    rw[e',hz] at hk
    exact bd.kC (.cons (hU (p:=false) (by rfl) (fM.of T)) (.cons (.int _ _) .nil)) hk
  | n+2,hI=>exact hI.elim
set_option maxRecDepth 100000 in
theorem adu {l:List af} {c:an} (hr:c.f0=4) (hS:bt c=[c.f1]) (hc:gL c) (ic:c.f7.length≤1000000) (ht:∀t∈l,e8 t) (hk:k (.tuple [ae af.enc 3 (gq l c),.int .i64 (gf l c)]) σ):bW Tryz.prog 30 [ae af.enc 3 l,an.enc c] (bd σ k) Go.Ev.start:=by
 have ei:¬(c.f0<1∨6<c.f0):=by omega
 refine F30.jR (live:=dS) (call:=eG) (fun h=>kF h) 2 (by kernel_rfl) Nat.lt_wfRel.wf (Ky [c.f1]) (mq l c 162 [c.f1]) mq.clean ?_ ?_
 ·rw[GB];unfold qp
  refine⟨c,rfl,?_,?_,?_,?_,?_,?_,?_⟩<;>intro h0
  all_goals first
   | (exfalso;omega)
   | exact⟨l,rfl,fun t h=>e8.ga (ht t h),rfl,aq (fun a=>cA hk (pf a) a) fun a=>⟨c,rfl,Decidable.not_not.1 a,0,Nat.zero_le _,fun j hj=>absurd hj (Nat.not_lt_zero j),.inl ⟨rfl,rfl⟩⟩⟩
 ·intro j hj ss hI
  have lh:=ov c (aD l c.f1)
  match j,hI with
  | 0,hI=>
   obtain⟨g1,i,hi,hm,⟨rfl,rfl⟩ | ⟨n,f,h0,gN,rfl⟩⟩:=hI
   ·obtain⟨g5,g6⟩:=cY g1
    rw[ade];unfold oH;rw[i64_in (((0:Nat):Int)+1) (by omega)]
    refine⟨rfl,aq (fun a1=>⟨⟨by omega,by show(0:Int)<1;decide⟩,l,c.f1,rfl,by omega,rfl,aq (fun a2=>cA hk ?_ (by decide)) fun a2=>⟨⟨by omega,(dr l c.f1).2⟩,⟨rfl,rfl,rfl⟩,⟨g1,1,Nat.le_refl 1,fun j hj=>?_,.inr ⟨1,_,by omega,fM.one _,rfl⟩⟩,by show 10+(1-(((0:Nat):Int)+1).toNat)<10+(1-((0:Nat):Int).toNat);omega⟩⟩) fun a1=>absurd (show(0:Int)<1 by decide) a1⟩
    ·have:=kD (l:=l) (ss:=bt c) (i:=0) (by rw[hS];exact Nat.zero_lt_succ _) (by rw[hS];exact a2) fun j hj=>absurd hj (Nat.not_lt_zero j)
     exact(qW g1 ei (by rw[this];decide)).trans this
    ·obtain rfl:=Nat.lt_one_iff.1 hj;exact a2
   ·obtain rfl:i=1:=by have:i≤1:=hi;omega
    obtain⟨g5,g6⟩:=cY g1
    have rS:¬aS l c.f1<0:=hm 0 (by omega)
    have m3:fp l (bt c)=0:=nG fun j hj=>by rw[hS] at hj⊢;exact hm j hj
    have cZ:aD l c.f1∈l:=bn (by have:=dr l c.f1;omega)
    have gN:fM n f [aD l c.f1]:=gN
    have hu:=M4 (c:=c) (by omega) (aD l c.f1) default (aD l c.f2)
    rw[adj];unfold qq
    refine⟨rfl,aq (fun a1=>absurd (show(1:Int)<1 from a1) (by decide)) fun a1=>⟨c,[aD l c.f1],.cons (.clean c.aJ) (.cons (hU (p:=false) (by rfl) gN) .nil),⟨hc,hr,ic,Nat.le_refl _,by show 1≤16;decide,fun t h=>?_⟩,fun h0=>⟨rfl,⟨rfl,rfl⟩,⟨⟨g1,by rw[←hS];exact m3,by rw[←hu];exact h0⟩,0,_,rfl,Nat.zero_le _,fun j hj=>absurd hj (Nat.not_lt_zero j),rfl⟩,by show 2-(0:Int).toNat<10+_;have:(0:Int).toNat=0:=rfl;omega⟩,fun h0=>⟨rfl,aq (fun a=>?_) fun a=>absurd h0 a⟩⟩⟩
    ·rw[List.mem_singleton.1 h];exact⟨ht _ cZ,g6 _ cZ⟩
    ·have h0:kE c (aD l c.f1) default≠0:=h0
     exact cA hk (by rw[qX g1 ei m3 (by rw[←hu];exact h0),←hu]) h0
  | 1,hI=>
   obtain⟨⟨g1,g3,g4⟩,i,T,rfl,hi,hm,rfl⟩:=hI
   obtain⟨g5,g6⟩:=cY g1
   have kX:fp l (bt c)=0:=by rw[hS];exact g3
   obtain⟨f1,_⟩:=qn ei (fun j hj=>fun h=>by
    have h:aS l ((bt c).getD j default)<0:=h
    have:=(cM (fun i=>if aS l ((bt c).getD i default)<0 then(9:Int) else 0) _).1 kX j hj
    rw[if_pos h] at this;cases this)
   have cZ:aD l c.f1∈l:=bn (by have h1:=dr l c.f1;have h2:=f1 (by omega);omega)
   have iY:=nJ ei g4 fun _=>g6 _ cZ
   generalize hT:kT c (aD l c.f1)=T at *
   have go:¬oG l [c.f1] T i→i<T.length→mq l c 162 [c.f1] 1 [.val (ae af.enc 3 l),.val (.iface 162 (an.enc c)),.val (ae V.str 1 [c.f1]),.row T.length (e9 (fun j=>af.enc (T.getD j default)) i (.agg [.str ((T.getD i default).f0),.int .i64 ((T.getD i default).f1),ae aj.enc 7 ((T.getD i default).f2)])) 3,.al 0 T.length 3,.val (.int .i64 ((T.length:Nat):Int)),.val (.int .i64 (IntKind.i64.wrap ((i:Int)+1)))]∧
     2-(IntKind.i64.wrap ((i:Int)+1)).toNat<2-(i:Int).toNat:=fun h1 h2=>by
    have hu:e9 (fun j=>af.enc (T.getD j default)) i (.agg [.str ((T.getD i default).f0),.int .i64 ((T.getD i default).f1),ae aj.enc 7 ((T.getD i default).f2)])=fun j=>af.enc (T.getD j default):=mo rfl
    rw[i64_in ((i:Int)+1) (by omega),hu]
    refine⟨⟨⟨g1,g3,g4⟩,i+1,T,hT.symm,by omega,fun j hj=>?_,rfl⟩,by omega⟩
    by_cases e:j=i
    ·subst e;exact h1
    ·exact hm j (by omega)
   rw[ado];unfold rA yw
   refine⟨rfl,aq (fun a1=>⟨⟨by omega,by omega⟩,by omega,l,_,rfl,by omega,rfl,aq (fun a2=>⟨c,rfl,.inr (.inr (.inr (.inl rfl))),_,rfl,by show(1:Nat)≤1000000;omega,aa.mk (fun a3=>cA hk ?_ (by decide)) fun a3=>⟨_,rfl,iY _ (bn (show i<T.length by omega)),⟨by omega,by omega⟩,by omega,⟨rfl,rfl⟩,go (fun h=>?_) (by omega)⟩⟩) fun a2=>⟨_,rfl,iY _ (bn (show i<T.length by omega)),⟨by omega,by omega⟩,by omega,⟨rfl,rfl⟩,go (fun h=>a2 h.1) (by omega)⟩⟩) fun a1=>?_⟩
   ·rw[dJ] at a3
    have h3:¬ 0≤kW [c.f1] (T.getD i default).f0:=fun h=>by
     rw[show decide (0≤ct _ _ _)=true from decide_eq_true h] at a3;cases a3
    have:=nH (l:=l) (ss:=bt c) (o:=T) (i:=i) (by omega) ⟨a2,by rw[hS];omega⟩ (by rw[hS];exact hm)
    rw[j4 g1 ei kX g4,hT];exact this
   ·rw[dJ] at a3
    have h3:kW [c.f1] (T.getD i default).f0<0:=h.2
    have h4:¬ 0≤kW [c.f1] (T.getD i default).f0:=by omega
    rw[show decide (0≤ct _ _ _)=false from decide_eq_false h4] at a3;cases a3
   ·obtain rfl:i=T.length:=by omega
    have hz:gf l c=0:=by rw[j4 g1 ei kX g4,hT];exact qm (by rw[hS];exact hm)
    have e':gq l c=T:=(if_pos hz).trans hT
    rw[e',hz] at hk
    exact bd.kC (.cons (hU (p:=false) (by rfl) (fM.of T)) (.cons (.int _ _) .nil)) hk
  | n+2,hI=>exact hI.elim
set_option maxRecDepth 100000 in
theorem adv {l:List af} {c:an} (hr:c.f0=5) (hS:bt c=[c.f1]) (hc:gL c) (ic:c.f7.length≤1000000) (ht:∀t∈l,e8 t) (hk:k (.tuple [ae af.enc 3 (gq l c),.int .i64 (gf l c)]) σ):bW Tryz.prog 30 [ae af.enc 3 l,an.enc c] (bd σ k) Go.Ev.start:=by
 have ei:¬(c.f0<1∨6<c.f0):=by omega
 refine F30.jR (live:=dS) (call:=eG) (fun h=>kF h) 2 (by kernel_rfl) Nat.lt_wfRel.wf (Ky [c.f1]) (mq l c 163 [c.f1]) mq.clean ?_ ?_
 ·rw[GB];unfold qp
  refine⟨c,rfl,?_,?_,?_,?_,?_,?_,?_⟩<;>intro h0
  all_goals first
   | (exfalso;omega)
   | exact⟨l,rfl,fun t h=>e8.ga (ht t h),rfl,aq (fun a=>cA hk (pf a) a) fun a=>⟨c,rfl,Decidable.not_not.1 a,0,Nat.zero_le _,fun j hj=>absurd hj (Nat.not_lt_zero j),.inl ⟨rfl,rfl⟩⟩⟩
 ·intro j hj ss hI
  have lh:=ov c (aD l c.f1)
  match j,hI with
  | 0,hI=>
   obtain⟨g1,i,hi,hm,⟨rfl,rfl⟩ | ⟨n,f,h0,gN,rfl⟩⟩:=hI
   ·obtain⟨g5,g6⟩:=cY g1
    rw[adf];unfold oH;rw[i64_in (((0:Nat):Int)+1) (by omega)]
    refine⟨rfl,aq (fun a1=>⟨⟨by omega,by show(0:Int)<1;decide⟩,l,c.f1,rfl,by omega,rfl,aq (fun a2=>cA hk ?_ (by decide)) fun a2=>⟨⟨by omega,(dr l c.f1).2⟩,⟨rfl,rfl,rfl⟩,⟨g1,1,Nat.le_refl 1,fun j hj=>?_,.inr ⟨1,_,by omega,fM.one _,rfl⟩⟩,by show 10+(1-(((0:Nat):Int)+1).toNat)<10+(1-((0:Nat):Int).toNat);omega⟩⟩) fun a1=>absurd (show(0:Int)<1 by decide) a1⟩
    ·have:=kD (l:=l) (ss:=bt c) (i:=0) (by rw[hS];exact Nat.zero_lt_succ _) (by rw[hS];exact a2) fun j hj=>absurd hj (Nat.not_lt_zero j)
     exact(qW g1 ei (by rw[this];decide)).trans this
    ·obtain rfl:=Nat.lt_one_iff.1 hj;exact a2
   ·obtain rfl:i=1:=by have:i≤1:=hi;omega
    obtain⟨g5,g6⟩:=cY g1
    have rS:¬aS l c.f1<0:=hm 0 (by omega)
    have m3:fp l (bt c)=0:=nG fun j hj=>by rw[hS] at hj⊢;exact hm j hj
    have cZ:aD l c.f1∈l:=bn (by have:=dr l c.f1;omega)
    have gN:fM n f [aD l c.f1]:=gN
    have hu:=M4 (c:=c) (by omega) (aD l c.f1) default (aD l c.f2)
    rw[adk];unfold qq
    refine⟨rfl,aq (fun a1=>absurd (show(1:Int)<1 from a1) (by decide)) fun a1=>⟨c,[aD l c.f1],.cons (.clean c.aJ) (.cons (hU (p:=false) (by rfl) gN) .nil),⟨hc,hr,ic,Nat.le_refl _,by show 1≤16;decide,fun t h=>?_⟩,fun h0=>⟨rfl,⟨rfl,rfl⟩,⟨⟨g1,by rw[←hS];exact m3,by rw[←hu];exact h0⟩,0,_,rfl,Nat.zero_le _,fun j hj=>absurd hj (Nat.not_lt_zero j),rfl⟩,by show 2-(0:Int).toNat<10+_;have:(0:Int).toNat=0:=rfl;omega⟩,fun h0=>⟨rfl,aq (fun a=>?_) fun a=>absurd h0 a⟩⟩⟩
    ·rw[List.mem_singleton.1 h];exact⟨ht _ cZ,g6 _ cZ⟩
    ·have h0:kE c (aD l c.f1) default≠0:=h0
     exact cA hk (by rw[qX g1 ei m3 (by rw[←hu];exact h0),←hu]) h0
  | 1,hI=>
   obtain⟨⟨g1,g3,g4⟩,i,T,rfl,hi,hm,rfl⟩:=hI
   obtain⟨g5,g6⟩:=cY g1
   have kX:fp l (bt c)=0:=by rw[hS];exact g3
   obtain⟨f1,_⟩:=qn ei (fun j hj=>fun h=>by
    have h:aS l ((bt c).getD j default)<0:=h
    have:=(cM (fun i=>if aS l ((bt c).getD i default)<0 then(9:Int) else 0) _).1 kX j hj
    rw[if_pos h] at this;cases this)
   have cZ:aD l c.f1∈l:=bn (by have h1:=dr l c.f1;have h2:=f1 (by omega);omega)
   have iY:=nJ ei g4 fun _=>g6 _ cZ
   generalize hT:kT c (aD l c.f1)=T at *
   have go:¬oG l [c.f1] T i→i<T.length→mq l c 163 [c.f1] 1 [.val (ae af.enc 3 l),.val (.iface 163 (an.enc c)),.val (ae V.str 1 [c.f1]),.row T.length (e9 (fun j=>af.enc (T.getD j default)) i (.agg [.str ((T.getD i default).f0),.int .i64 ((T.getD i default).f1),ae aj.enc 7 ((T.getD i default).f2)])) 3,.al 0 T.length 3,.val (.int .i64 ((T.length:Nat):Int)),.val (.int .i64 (IntKind.i64.wrap ((i:Int)+1)))]∧
     2-(IntKind.i64.wrap ((i:Int)+1)).toNat<2-(i:Int).toNat:=fun h1 h2=>by
    have hu:e9 (fun j=>af.enc (T.getD j default)) i (.agg [.str ((T.getD i default).f0),.int .i64 ((T.getD i default).f1),ae aj.enc 7 ((T.getD i default).f2)])=fun j=>af.enc (T.getD j default):=mo rfl
    rw[i64_in ((i:Int)+1) (by omega),hu]
    refine⟨⟨⟨g1,g3,g4⟩,i+1,T,hT.symm,by omega,fun j hj=>?_,rfl⟩,by omega⟩
    by_cases e:j=i
    ·subst e;exact h1
    ·exact hm j (by omega)
   rw[adp];unfold rA yw
   refine⟨rfl,aq (fun a1=>⟨⟨by omega,by omega⟩,by omega,l,_,rfl,by omega,rfl,aq (fun a2=>⟨c,rfl,.inr (.inr (.inr (.inr (.inl rfl)))),_,rfl,by show(1:Nat)≤1000000;omega,aa.mk (fun a3=>cA hk ?_ (by decide)) fun a3=>⟨_,rfl,iY _ (bn (show i<T.length by omega)),⟨by omega,by omega⟩,by omega,⟨rfl,rfl⟩,go (fun h=>?_) (by omega)⟩⟩) fun a2=>⟨_,rfl,iY _ (bn (show i<T.length by omega)),⟨by omega,by omega⟩,by omega,⟨rfl,rfl⟩,go (fun h=>a2 h.1) (by omega)⟩⟩) fun a1=>?_⟩
   ·rw[dJ] at a3
    have h3:¬ 0≤kW [c.f1] (T.getD i default).f0:=fun h=>by
     rw[show decide (0≤ct _ _ _)=true from decide_eq_true h] at a3;cases a3
    have:=nH (l:=l) (ss:=bt c) (o:=T) (i:=i) (by omega) ⟨a2,by rw[hS];omega⟩ (by rw[hS];exact hm)
    rw[j4 g1 ei kX g4,hT];exact this
   ·rw[dJ] at a3
    have h3:kW [c.f1] (T.getD i default).f0<0:=h.2
    have h4:¬ 0≤kW [c.f1] (T.getD i default).f0:=by omega
    rw[show decide (0≤ct _ _ _)=false from decide_eq_false h4] at a3;cases a3
   ·obtain rfl:i=T.length:=by omega
    have hz:gf l c=0:=by rw[j4 g1 ei kX g4,hT];exact qm (by rw[hS];exact hm)
    have e':gq l c=T:=(if_pos hz).trans hT
    rw[e',hz] at hk
    exact bd.kC (.cons (hU (p:=false) (by rfl) (fM.of T)) (.cons (.int _ _) .nil)) hk
  | n+2,hI=>exact hI.elim
set_option maxRecDepth 100000 in
theorem adw {l:List af} {c:an} (hr:c.f0=1) (hS:bt c=[]) (hc:gL c) (ic:c.f7.length≤1000000) (ht:∀t∈l,e8 t) (hk:k (.tuple [ae af.enc 3 (gq l c),.int .i64 (gf l c)]) σ):bW Tryz.prog 30 [ae af.enc 3 l,an.enc c] (bd σ k) Go.Ev.start:=by
 have ei:¬(c.f0<1∨6<c.f0):=by omega
 refine F30.jR (live:=dS) (call:=eG) (fun h=>kF h) 2 (by kernel_rfl) Nat.lt_wfRel.wf (Ky []) (mq l c 159 []) mq.clean ?_ ?_
 ·rw[GB];unfold qp
  refine⟨c,rfl,?_,?_,?_,?_,?_,?_,?_⟩<;>intro h0
  all_goals first
   | (exfalso;omega)
   | exact⟨l,rfl,fun t h=>e8.ga (ht t h),rfl,aq (fun a=>cA hk (pf a) a) fun a=>⟨c,rfl,Decidable.not_not.1 a,0,Nat.zero_le _,fun j hj=>absurd hj (Nat.not_lt_zero j),.inl ⟨rfl,rfl⟩⟩⟩
 ·intro j hj ss hI
  have lh:=ov c (aD l c.f1)
  match j,hI with
  | 0,hI=>
   obtain⟨g1,i,hi,hm,⟨rfl,rfl⟩ | ⟨n,f,h0,gN,rfl⟩⟩:=hI
   ·obtain⟨g5,g6⟩:=cY g1
    have m3:fp l (bt c)=0:=by rw[hS];rfl
    have hE:∀t u t' u',kE c t u=kE c t' u':=fun t u t' u'=>(yq hr t u).trans (yq hr t' u').symm
    have hT:∀t t',kT c t=kT c t':=fun t t'=>(Gi hr t).trans (Gi hr t').symm
    rw[ac9];unfold oH
    refine⟨rfl,aq (fun a1=>absurd (show(0:Int)<0 from a1) (by decide)) fun a1=>⟨c,[],.cons (.clean c.aJ) (.cons Gw .nil),⟨hc,hr,ic,Nat.le_refl _,by show 0≤16;decide,fun t h=>by cases h⟩,fun h0=>⟨rfl,⟨rfl,rfl⟩,⟨⟨g1,rfl,(hE _ _ _ _).trans h0⟩,0,_,hT _ _,Nat.zero_le _,fun j hj=>absurd hj (Nat.not_lt_zero j),rfl⟩,by show 2-(0:Int).toNat<10+_;have:(0:Int).toNat=0:=rfl;omega⟩,fun h0=>⟨rfl,aq (fun a=>?_) fun a=>absurd h0 a⟩⟩⟩
    exact cA hk ((qX g1 ei m3 (fun h=>h0 ((hE _ _ _ _).trans h))).trans (hE _ _ _ _)) h0
   ·have:i≤0:=hi
    omega
  | 1,hI=>
   obtain⟨⟨g1,g3,g4⟩,i,T,rfl,hi,hm,rfl⟩:=hI
   obtain⟨g5,g6⟩:=cY g1
   have kX:fp l (bt c)=0:=by rw[hS];exact g3
   have iY:=nJ ei g4 fun h=>absurd hr h
   generalize hT:kT c (aD l c.f1)=T at *
   have go:¬oG l [] T i→i<T.length→mq l c 159 [] 1 [.val (ae af.enc 3 l),.val (.iface 159 (an.enc c)),.val (ae V.str 1 []),.row T.length (e9 (fun j=>af.enc (T.getD j default)) i (.agg [.str ((T.getD i default).f0),.int .i64 ((T.getD i default).f1),ae aj.enc 7 ((T.getD i default).f2)])) 3,.al 0 T.length 3,.val (.int .i64 ((T.length:Nat):Int)),.val (.int .i64 (IntKind.i64.wrap ((i:Int)+1)))]∧
     2-(IntKind.i64.wrap ((i:Int)+1)).toNat<2-(i:Int).toNat:=fun h1 h2=>by
    have hu:e9 (fun j=>af.enc (T.getD j default)) i (.agg [.str ((T.getD i default).f0),.int .i64 ((T.getD i default).f1),ae aj.enc 7 ((T.getD i default).f2)])=fun j=>af.enc (T.getD j default):=mo rfl
    rw[i64_in ((i:Int)+1) (by omega),hu]
    refine⟨⟨⟨g1,g3,g4⟩,i+1,T,hT.symm,by omega,fun j hj=>?_,rfl⟩,by omega⟩
    by_cases e:j=i
    ·subst e;exact h1
    ·exact hm j (by omega)
   rw[adl]
   refine⟨rfl,aq (fun a1=>⟨⟨by omega,by omega⟩,by omega,l,_,rfl,by omega,rfl,aq (fun a2=>⟨c,rfl,.inl rfl,cA hk ?_ (by decide)⟩) fun a2=>⟨_,rfl,iY _ (bn (show i<T.length by omega)),⟨by omega,by omega⟩,by omega,⟨rfl,rfl⟩,go (fun h=>a2 h.1) (by omega)⟩⟩) fun a1=>?_⟩
   ·have:=nH (l:=l) (ss:=bt c) (o:=T) (i:=i) (by omega) ⟨a2,by rw[hS];show(-1:Int)<0;decide⟩ (by rw[hS];exact hm)
    rw[j4 g1 ei kX g4,hT];exact this
   ·obtain rfl:i=T.length:=by omega
    have hz:gf l c=0:=by rw[j4 g1 ei kX g4,hT];exact qm (by rw[hS];exact hm)
    have e':gq l c=T:=(if_pos hz).trans hT
    rw[e',hz] at hk
    exact bd.kC (.cons (hU (p:=false) (by rfl) (fM.of T)) (.cons (.int _ _) .nil)) hk
  | n+2,hI=>exact hI.elim
set_option maxRecDepth 100000 in
theorem adx {l:List af} {c:an} (hr:c.f0=6) (hS:bt c=[c.f1,c.f2]) (hc:gL c) (ic:c.f7.length≤1000000) (ht:∀t∈l,e8 t) (hk:k (.tuple [ae af.enc 3 (gq l c),.int .i64 (gf l c)]) σ):bW Tryz.prog 30 [ae af.enc 3 l,an.enc c] (bd σ k) Go.Ev.start:=by
 have ei:¬(c.f0<1∨6<c.f0):=by omega
 refine F30.jR (live:=dS) (call:=eG) (fun h=>kF h) 2 (by kernel_rfl) Nat.lt_wfRel.wf (Ky [c.f1,c.f2]) (mq l c 164 [c.f1,c.f2]) mq.clean ?_ ?_
 ·rw[GB];unfold qp
  refine⟨c,rfl,?_,?_,?_,?_,?_,?_,?_⟩<;>intro h0
  all_goals first
   | (exfalso;omega)
   | exact⟨l,rfl,fun t h=>e8.ga (ht t h),rfl,aq (fun a=>cA hk (pf a) a) fun a=>⟨c,rfl,Decidable.not_not.1 a,0,Nat.zero_le _,fun j hj=>absurd hj (Nat.not_lt_zero j),.inl ⟨rfl,rfl⟩⟩⟩
 ·intro j hj ss hI
  have lh:=ov c (aD l c.f1)
  match j,hI with
  | 0,hI=>
   obtain⟨g1,i,hi,hm,⟨rfl,rfl⟩ | ⟨n,f,h0,gN,rfl⟩⟩:=hI
   ·obtain⟨g5,g6⟩:=cY g1
    rw[adg];unfold oH;rw[i64_in (((0:Nat):Int)+1) (by omega)]
    refine⟨rfl,aq (fun a1=>⟨⟨by omega,by show(0:Int)<2;decide⟩,l,c.f1,rfl,by omega,rfl,aq (fun a2=>cA hk ?_ (by decide)) fun a2=>⟨⟨by omega,(dr l c.f1).2⟩,⟨rfl,rfl,rfl⟩,⟨g1,1,Nat.le_succ 1,fun j hj=>?_,.inr ⟨1,_,by omega,fM.one _,rfl⟩⟩,by show 10+(2-(((0:Nat):Int)+1).toNat)<10+(2-((0:Nat):Int).toNat);omega⟩⟩) fun a1=>absurd (show(0:Int)<2 by decide) a1⟩
    ·have:=kD (l:=l) (ss:=bt c) (i:=0) (by rw[hS];exact Nat.zero_lt_succ _) (by rw[hS];exact a2) fun j hj=>absurd hj (Nat.not_lt_zero j)
     exact(qW g1 ei (by rw[this];decide)).trans this
    ·obtain rfl:=Nat.lt_one_iff.1 hj;exact a2
   ·obtain⟨g5,g6⟩:=cY g1
    have rS:¬aS l c.f1<0:=hm 0 (by omega)
    have cZ:aD l c.f1∈l:=bn (by have:=dr l c.f1;omega)
    rcases(show i=1∨i=2 by have:i≤2:=hi;omega) with rfl | rfl
    ·have gN:fM n f [aD l c.f1]:=gN
     have hn:n=1:=gN.1
     rw[UL];unfold qq;rw[i64_in (((1:Nat):Int)+1) (by omega)]
     refine⟨rfl,aq (fun a1=>⟨⟨by omega,by show(1:Int)<2;decide⟩,l,c.f2,rfl,by omega,rfl,aq (fun a2=>cA hk ?_ (by decide)) fun a2=>⟨⟨by omega,(dr l c.f2).2⟩,⟨rfl,by omega⟩,⟨rfl,rfl⟩,⟨g1,2,Nat.le_refl 2,fun j hj=>?_,.inr ⟨n+1,_,by omega,gN.push (aD l c.f2),rfl⟩⟩,by show 10+(2-(((1:Nat):Int)+1).toNat)<10+(2-((1:Nat):Int).toNat);omega⟩⟩) fun a1=>absurd (show(1:Int)<2 by decide) a1⟩
     ·have:=kD (l:=l) (ss:=bt c) (i:=1) (by rw[hS];exact Nat.le_refl _) (by rw[hS];exact a2) fun j hj=>by
       obtain rfl:=Nat.lt_one_iff.1 hj
       rw[hS];exact rS
      exact(qW g1 ei (by rw[this];decide)).trans this
     ·rcases(show j=0∨j=1 by omega) with rfl | rfl
      ·exact rS
      ·exact a2
    ·have Hw:¬aS l c.f2<0:=hm 1 (by omega)
     have m3:fp l (bt c)=0:=nG fun j hj=>by rw[hS] at hj⊢;exact hm j hj
     have UO:aD l c.f2∈l:=bn (by have:=dr l c.f2;omega)
     have gN:fM n f [aD l c.f1,aD l c.f2]:=gN
     rw[UL];unfold qq
     refine⟨rfl,aq (fun a1=>absurd (show(2:Int)<2 from a1) (by decide)) fun a1=>⟨c,[aD l c.f1,aD l c.f2],.cons (.clean c.aJ) (.cons (hU (p:=false) (by rfl) gN) .nil),⟨hc,hr,ic,Nat.le_refl _,by show 2≤16;decide,fun t h=>?_⟩,fun h0=>⟨rfl,⟨rfl,rfl⟩,⟨⟨g1,by rw[←hS];exact m3,h0⟩,0,_,rfl,Nat.zero_le _,fun j hj=>absurd hj (Nat.not_lt_zero j),rfl⟩,by show 2-(0:Int).toNat<10+_;have:(0:Int).toNat=0:=rfl;omega⟩,fun h0=>⟨rfl,aq (fun a=>?_) fun a=>absurd h0 a⟩⟩⟩
     ·rcases List.mem_cons.1 h with rfl | h
      ·exact⟨ht _ cZ,g6 _ cZ⟩
      ·rw[List.mem_singleton.1 h];exact⟨ht _ UO,g6 _ UO⟩
     ·exact cA hk (qX g1 ei m3 h0) h0
  | 1,hI=>
   obtain⟨⟨g1,g3,g4⟩,i,T,rfl,hi,hm,rfl⟩:=hI
   obtain⟨g5,g6⟩:=cY g1
   have kX:fp l (bt c)=0:=by rw[hS];exact g3
   obtain⟨f1,_⟩:=qn ei (fun j hj=>fun h=>by
    have h:aS l ((bt c).getD j default)<0:=h
    have:=(cM (fun i=>if aS l ((bt c).getD i default)<0 then(9:Int) else 0) _).1 kX j hj
    rw[if_pos h] at this;cases this)
   have cZ:aD l c.f1∈l:=bn (by have h1:=dr l c.f1;have h2:=f1 (by omega);omega)
   have iY:=nJ ei g4 fun _=>g6 _ cZ
   generalize hT:kT c (aD l c.f1)=T at *
   have go:¬oG l [c.f1,c.f2] T i→i<T.length→mq l c 164 [c.f1,c.f2] 1 [.val (ae af.enc 3 l),.val (.iface 164 (an.enc c)),.val (ae V.str 1 [c.f1,c.f2]),.row T.length (e9 (fun j=>af.enc (T.getD j default)) i (.agg [.str ((T.getD i default).f0),.int .i64 ((T.getD i default).f1),ae aj.enc 7 ((T.getD i default).f2)])) 3,.al 0 T.length 3,.val (.int .i64 ((T.length:Nat):Int)),.val (.int .i64 (IntKind.i64.wrap ((i:Int)+1)))]∧
     2-(IntKind.i64.wrap ((i:Int)+1)).toNat<2-(i:Int).toNat:=fun h1 h2=>by
    have hu:e9 (fun j=>af.enc (T.getD j default)) i (.agg [.str ((T.getD i default).f0),.int .i64 ((T.getD i default).f1),ae aj.enc 7 ((T.getD i default).f2)])=fun j=>af.enc (T.getD j default):=mo rfl
    rw[i64_in ((i:Int)+1) (by omega),hu]
    refine⟨⟨⟨g1,g3,g4⟩,i+1,T,hT.symm,by omega,fun j hj=>?_,rfl⟩,by omega⟩
    by_cases e:j=i
    ·subst e;exact h1
    ·exact hm j (by omega)
   rw[adq];unfold rA yw
   refine⟨rfl,aq (fun a1=>⟨⟨by omega,by omega⟩,by omega,l,_,rfl,by omega,rfl,aq (fun a2=>⟨c,rfl,.inr (.inr (.inr (.inr (.inr rfl)))),_,rfl,by show(2:Nat)≤1000000;omega,aa.mk (fun a3=>cA hk ?_ (by decide)) fun a3=>⟨_,rfl,iY _ (bn (show i<T.length by omega)),⟨by omega,by omega⟩,by omega,⟨rfl,rfl⟩,go (fun h=>?_) (by omega)⟩⟩) fun a2=>⟨_,rfl,iY _ (bn (show i<T.length by omega)),⟨by omega,by omega⟩,by omega,⟨rfl,rfl⟩,go (fun h=>a2 h.1) (by omega)⟩⟩) fun a1=>?_⟩
   ·rw[dJ] at a3
    have h3:¬ 0≤kW [c.f1,c.f2] (T.getD i default).f0:=fun h=>by
     rw[show decide (0≤ct _ _ _)=true from decide_eq_true h] at a3;cases a3
    have:=nH (l:=l) (ss:=bt c) (o:=T) (i:=i) (by omega) ⟨a2,by rw[hS];omega⟩ (by rw[hS];exact hm)
    rw[j4 g1 ei kX g4,hT];exact this
   ·rw[dJ] at a3
    have h3:kW [c.f1,c.f2] (T.getD i default).f0<0:=h.2
    have h4:¬ 0≤kW [c.f1,c.f2] (T.getD i default).f0:=by omega
    rw[show decide (0≤ct _ _ _)=false from decide_eq_false h4] at a3;cases a3
   ·obtain rfl:i=T.length:=by omega
    have hz:gf l c=0:=by rw[j4 g1 ei kX g4,hT];exact qm (by rw[hS];exact hm)
    have e':gq l c=T:=(if_pos hz).trans hT
    rw[e',hz] at hk
    exact bd.kC (.cons (hU (p:=false) (by rfl) (fM.of T)) (.cons (.int _ _) .nil)) hk
  | n+2,hI=>exact hI.elim
theorem ady {l:List af} {c:an} (hr:c.f0<1∨6<c.f0) (ht:∀t∈l,e8 t) (hk:k (.tuple [ae af.enc 3 (gq l c),.int .i64 (gf l c)]) σ):bW Tryz.prog 30 [ae af.enc 3 l,an.enc c] (bd σ k) Go.Ev.start:=by
 refine F30.jR (live:=dS) (call:=eG) (fun h=>kF h) 2 (by kernel_rfl) Nat.lt_wfRel.wf (fun _ _=>0) (fun _ _=>False) (fun _ _ h=>h.elim) ?_ fun _ _ _ h=>h.elim
 rw[GB];unfold qp
 refine⟨c,rfl,?_,?_,?_,?_,?_,?_,?_⟩<;>intro h0
 all_goals first
  | (exfalso;omega)
  | exact⟨l,rfl,fun t h=>e8.ga (ht t h),rfl,aq (fun a=>cA hk (pf a) a) fun a=>cA hk (Dv (Decidable.not_not.1 a) hr) (by decide)⟩
theorem abF (h:W30 vs σ k):ag Tryz.prog 30 vs k σ:=by
 obtain⟨l,c,rfl,⟨hc,ic,ht⟩,hk⟩:=h
 refine ag.aQ (av (cF l) (av c.aJ aM)) ?_
 by_cases hr:c.f0<1∨6<c.f0
 ·exact ady hr ht hk
 rcases(show c.f0=1∨c.f0=2∨c.f0=3∨c.f0=4∨c.f0=5∨c.f0=6 by omega) with h0 | h0 | h0 | h0 | h0 | h0
 ·exact adw h0 (Pd h0) hc ic ht hk
 ·exact ads h0 (lA (by omega)) hc ic ht hk
 ·exact adt h0 (lA (by omega)) hc ic ht hk
 ·exact adu h0 (lA (by omega)) hc ic ht hk
 ·exact adv h0 (lA (by omega)) hc ic ht hk
 ·exact adx h0 (qi h0) hc ic ht hk
theorem S2:∀ {f:FuncId} {vs:List V} {σ:St} {k:ah},UM f vs σ k→ag Tryz.prog f vs k σ:=fun h=>aH abF kF h
end
end Go.Proofs.YtbajncpfmemdgaaGreatDoor
end
section
namespace Go.Proofs.YtbajncpfmemdgaaGreatDoor
open Go Go.Ev
def abG [Env] (vs:List V) (σ:St) (k:ah):Prop:=
 ∃l:List (List UInt8),bH σ vs [ae V.str 1 l]∧k (.int .i64 0) σ∧(l.length≤60→k (.int .i64 1) σ)
def Dx [Env]:=kS 68 abG UM
theorem ah5 [Env] (A:Nat→List SV→Prop) (Q:V→Prop) (e:an):WE Tryz.prog 28 Tryz.f28 Dx 0 zI A (fun v _=>Q v) [an.enc e] Go.Ev.start=
  ((∃abH:List (List UInt8),bH ⟨(St.new (St.new Go.Ev.start 0 (.cells 18 [] (ai (an.cells e) .leaf 0) true false)) 1 (.cells 6 [] (ai [.str e.f1,.str e.f2,.str e.f3,.str e.f4,.str e.f5,.str e.f8.f0] .leaf 0) true false)).heap,2⟩ [ae V.str 1 e.f7] [ae V.str 1 abH]∧((.i64:IntKind)=.i64∧Q (.int .i64 (0:Int)))∧(abH.length≤60→((.i64:IntKind)=.i64∧(∃abI:List (List UInt8),bH ⟨(St.new (St.new Go.Ev.start 0 (.cells 18 [] (ai (an.cells e) .leaf 0) true false)) 1 (.cells 6 [] (ai [.str e.f1,.str e.f2,.str e.f3,.str e.f4,.str e.f5,.str e.f8.f0] .leaf 0) true false)).heap,2⟩ [.slice 1 0 (6) (6) true 1] [ae V.str 1 abI]∧((.i64:IntKind)=.i64∧Q (.int .i64 (0:Int)))∧(abI.length≤60→((.i64:IntKind)=.i64∧((∃ah6:af,[.agg (af.cells e.f9)]=[af.enc ah6])∧((.i64:IntKind)=.i64∧Q (.int .i64 (0:Int)))∧((.i64:IntKind)=.i64∧((∃ah7:az,[.agg (az.cells e.f8.f3)]=[az.enc ah7])∧((.i64:IntKind)=.i64∧Q (.int .i64 (0:Int)))∧((.i64:IntKind)=.i64∧Q (.int .i64 (1:Int))))))))))))):=by kernel_rfl
def abJ [Env] (vs:List V) (σ:St) (k:ah):Prop:=
 ∃e:an,vs=[an.enc e]∧k (.int .i64 0) σ∧(e.f7.length≤60→k (.int .i64 1) σ)
def UP [Env]:=kS 28 abJ Dx
def W29 [Env] (vs:List V) (σ:St) (k:ah):Prop:=
 vs=[]∧k (.bool true) σ
def M5 [Env]:=kS 29 W29 UP
def UQ:Nat→List Nat:=(fun _=>[])
theorem e5 [Env] (A:Nat→List SV→Prop) (Q:V→Prop) (l:List af) (c:an):WE Tryz.prog 5 Tryz.f5 M5 0 UQ A (fun v _=>Q v) [ae af.enc 3 l,an.enc c] Go.Ev.start=
  (((∃ah8:List af,[ae af.enc 3 l]=[ae af.enc 3 ah8])∧((.i64:IntKind)=.i64∧(([]:List V)=[]∧Q (.bool true)))∧((.i64:IntKind)=.i64∧(∃abK:an,[.agg (an.cells c)]=[an.enc abK]∧((.i64:IntKind)=.i64∧(([]:List V)=[]∧Q (.bool true)))∧(abK.f7.length≤60→((.i64:IntKind)=.i64∧(∃(M6:List af) (GD:an),[ae af.enc 3 l,.agg (an.cells c)]=[ae af.enc 3 M6,an.enc GD]∧(gL GD∧GD.f7.length≤1000000∧∀t∈M6,e8 t)∧(∃(M7:List af) (GF:an),[ae af.enc 3 l,.agg (an.cells c)]=[ae af.enc 3 M7,an.enc GF]∧(gL GF∧GF.f7.length≤1000000∧∀t∈M7,e8 t)∧(∃M8 abL:List af,[ae af.enc 3 ((gq M6 GD)),ae af.enc 3 ((gq M7 GF))]=[ae af.enc 3 M8,ae af.enc 3 abL]∧(M8.length≤1000000∧∀t∈M8,t.f2.length≤1000000)∧∀m4:Bool,(m4=true↔M8=abL)→aa (m4==true) (aa (m4==true) (aa (m4==true) (((.i64:IntKind)=.i64∧aa (decide ((gf M6 GD)=(gf M7 GF))) (aa m4 ((∃abM:an,[.agg (an.cells c)]=[an.enc abM]∧aa (V.beq (.agg (an.cells c)) (.agg (an.cells c))&&true) ((∃abN:an,[.agg (an.cells c)]=[an.enc abN]∧(∃S3 abO:List (List UInt8),[ae V.str 1 ((bt abM)),ae V.str 1 ((bt abN))]=[ae V.str 1 S3,ae V.str 1 abO]∧S3.length≤1000000∧∀M9:Bool,(M9=true↔S3=abO)→aa (M9==true) ((([]:List V)=[]∧aa M9 (Q (.bool true)) (Q (.bool false)))) (aa M9 (Q (.tuple [])) (Q (.bool false)))))) False)) (Q (.bool false))) (aa m4 (Q (.bool false)) (Q (.bool false))))) (aa m4 False (Q (.bool false)))) (aa (m4==true) False (aa m4 False (Q (.bool false))))) (aa (m4==true) (aa (m4==true) False (aa m4 False (Q (.bool false)))) (aa (m4==true) False (aa m4 False (Q (.bool false)))))))))))))):=by kernel_rfl
end Go.Proofs.YtbajncpfmemdgaaGreatDoor
end
section
namespace Go.Proofs.YtbajncpfmemdgaaGreatDoor.tW
open Go.Ev
theorem rB:Tryz.prog.follows .mixedOrders=true:=by kernel_rfl
abbrev i (n:Int):V:=.int .i64 n
def bs (l:List Nat):V:=.str (l.map UInt8.ofNat)
noncomputable def cl (l:List V):Trie V:=ai l .leaf 0
noncomputable def cs (l:List (Nat×V)):Trie V:=Da l .leaf
theorem YT {P:Program} {a0 a1 a2:Ev.Told} (h0:a0.ok P) (h1:a1.ok P) (h2:a2.ok P):∀e∈[a0,a1,a2],e.ok P:=by
 intro e he
 simp only[List.mem_cons,List.not_mem_nil,or_false] at he
 rcases he with rfl | rfl | rfl
 ·exact h0
 ·exact h1
 ·exact h2
end Go.Proofs.YtbajncpfmemdgaaGreatDoor.tW
end
section
set_option maxRecDepth 100000
namespace Go.Proofs.YtbajncpfmemdgaaGreatDoor.tW
open Go.Ev
noncomputable def t1:Ev.Told where
 f:=30
 args:=[.slice 5 0 1 1 true 3,.agg [i 5,bs [116],bs [],bs [97],bs [98],bs [],i 0,.slice 6 0 1 1 true 1,bs [],i 0,.bool false,i 0,i 0,.int .u64 0,bs [],bs [],i 0,.ak]]
 pre:=[(4,.cells 21 [] (cl ([bs [107],i 2,.bool false,i 0,i 0,.int .u64 0,bs [],bs [118],i 5,.bool true,i 0,i 0,.int .u64 0,bs [],bs [119],i 2,.bool true,i 0,i 0,.int .u64 0,bs []])) true false),(5,.cells 3 [] (cl ([bs [116],i 1,.slice 4 0 3 3 false 7])) true false),(6,.cells 1 [] (cl ([bs [118]])) true false)]
 now:=7
 v:=.tuple [.slice 130 0 2 2 true 3,i 0]
 post:=[(4,some (.cells 21 [] (cl ([bs [107],i 2,.bool false,i 0,i 0,.int .u64 0,bs [],bs [118],i 5,.bool true,i 0,i 0,.int .u64 0,bs [],bs [119],i 2,.bool true,i 0,i 0,.int .u64 0,bs []])) true false)),(5,some (.cells 3 [] (cl ([bs [116],i 1,.slice 4 0 3 3 false 7])) true false)),(6,some (.cells 1 [] (cl ([bs [118]])) true false)),(130,some (.cells 6 [] (cl ([bs [97],i 1,.slice 190 0 2 2 false 7,bs [98],i 1,.slice 195 0 2 2 false 7])) true false)),(190,some (.cells 14 [] (cl ([bs [107],i 2,.bool false,i 0,i 0,.int .u64 0,bs [],bs [118],i 5,.bool true,i 0,i 0,.int .u64 0,bs []])) true false)),(195,some (.cells 14 [] (cl ([bs [107],i 2,.bool false,i 0,i 0,.int .u64 0,bs [],bs [119],i 2,.bool true,i 0,i 0,.int .u64 0,bs []])) true false))]
 then':=196
theorem Ug:t1.ok Tryz.prog:=Ev.Told.nu (O:=[]) rB (fun _ h=>by cases h) 100000 (by kernel_rfl)
noncomputable def t2:Ev.Told where
 f:=36
 args:=[.slice 196 0 1 1 true 3,.agg [i 3,bs [116],bs [],bs [],bs [],bs [118],i 0,.ak,bs [],i 0,.bool false,i 0,i 0,.int .u64 0,bs [],bs [],i 0,.ak]]
 pre:=[(4,.cells 21 [] (cl ([bs [107],i 2,.bool false,i 0,i 0,.int .u64 0,bs [],bs [118],i 5,.bool true,i 0,i 0,.int .u64 0,bs [],bs [119],i 2,.bool true,i 0,i 0,.int .u64 0,bs []])) true false),(196,.cells 3 [] (cl ([bs [116],i 1,.slice 4 0 3 3 false 7])) true false)]
 now:=197
 v:=.tuple [.slice 319 0 1 1 false 3,i 0]
 post:=[(4,some (.cells 21 [] (cl ([bs [107],i 2,.bool false,i 0,i 0,.int .u64 0,bs [],bs [118],i 5,.bool true,i 0,i 0,.int .u64 0,bs [],bs [119],i 2,.bool true,i 0,i 0,.int .u64 0,bs []])) true false)),(196,some (.cells 3 [] (cl ([bs [116],i 1,.slice 4 0 3 3 false 7])) true false)),(313,some (.cells 14 [] (cl ([bs [107],i 2,.bool false,i 0,i 0,.int .u64 0,bs [],bs [119],i 2,.bool true,i 0,i 0,.int .u64 0,bs []])) true false)),(319,some (.cells 3 [] (cl ([bs [116],i 1,.slice 313 0 2 2 false 7])) true false))]
 then':=320
theorem Uh:t2.ok Tryz.prog:=Ev.Told.nu (O:=[]) rB (fun _ h=>by cases h) 100000 (by kernel_rfl)
noncomputable def t3:Ev.Told where
 f:=36
 args:=[.slice 420 0 1 1 true 3,.agg [i 1,bs [],bs [],bs [],bs [],bs [],i 0,.ak,bs [],i 0,.bool false,i 0,i 0,.int .u64 0,bs [],bs [116],i 1,.slice 4 0 3 3 false 7]]
 pre:=[(4,.cells 21 [] (cl ([bs [107],i 2,.bool false,i 0,i 0,.int .u64 0,bs [],bs [118],i 5,.bool true,i 0,i 0,.int .u64 0,bs [],bs [119],i 2,.bool true,i 0,i 0,.int .u64 0,bs []])) true false),(420,.cells 3 [] (cl ([bs [116],i 1,.slice 4 0 3 3 false 7])) true false)]
 now:=421
 v:=.tuple [.ak,i 12]
 post:=[(4,some (.cells 21 [] (cl ([bs [107],i 2,.bool false,i 0,i 0,.int .u64 0,bs [],bs [118],i 5,.bool true,i 0,i 0,.int .u64 0,bs [],bs [119],i 2,.bool true,i 0,i 0,.int .u64 0,bs []])) true false)),(420,some (.cells 3 [] (cl ([bs [116],i 1,.slice 4 0 3 3 false 7])) true false))]
 then':=591
theorem Ui:t3.ok Tryz.prog:=Ev.Told.nu (O:=[]) rB (fun _ h=>by cases h) 100000 (by kernel_rfl)
end Go.Proofs.YtbajncpfmemdgaaGreatDoor.tW
end
section
namespace Go.Proofs.YtbajncpfmemdgaaGreatDoor.tW
open Go.Ev
theorem Pj:(AJ Tryz.prog [t1,t2,t3] 100000 (.call 29 (sj ([].map (jO Tryz.prog)) 0)) Ev.start).check ye=true:=by kernel_rfl
theorem Hk:∀e∈[t1,t2,t3],e.ok Tryz.prog:=(YT Ug Uh Ui)
end Go.Proofs.YtbajncpfmemdgaaGreatDoor.tW
end
section
namespace Go.Proofs.YtbajncpfmemdgaaGreatDoor
open Go Go.Ev Go.IntWalk
theorem F5:bl Tryz.prog 5 Tryz.f5:=.of (by kernel_rfl) (by kernel_rfl)
theorem S4 {l:List af} {c:an} (h:gf l c=0):cG l=0∧¬(c.f0<1∨6<c.f0)∧fp l (bt c)=0∧kE c (aD l c.f1) (aD l c.f2)=0:=by
 have h1:cG l=0:=Classical.byContradiction fun g=>g (by rw[pf g] at h;exact h)
 have h2:¬(c.f0<1∨6<c.f0):=fun g=>by rw[Dv h1 g] at h;cases h
 have h3:fp l (bt c)=0:=Classical.byContradiction fun g=>g (by rw[qW h1 h2 g] at h;exact h)
 exact⟨h1,h2,h3,Classical.byContradiction fun g=>g (by rw[qX h1 h2 h3 g] at h;exact h)⟩
theorem Pk (l:List af) (c:an):(gq l c).length≤2∧∀t∈gq l c,UN t:=by
 by_cases h:gf l c=0
 ·have e:gq l c=kT c (aD l c.f1):=if_pos h
  rw[e]
  obtain⟨h1,h2,h3,h4⟩:=S4 h
  refine⟨ov _ _,nJ h2 h4 fun h5=>?_⟩
  obtain⟨f1,_⟩:=qn h2 (fun j hj=>fun h=>by
   have h:aS l ((bt c).getD j default)<0:=h
   have:=(cM (fun i=>if aS l ((bt c).getD i default)<0 then(9:Int) else 0) _).1 h3 j hj
   rw[if_pos h] at this;cases this)
  exact(cY h1).2 _ (bn (by have g1:=dr l c.f1;have g2:=f1 h5;omega))
 ·have e:gq l c=[]:=if_neg h
  rw[e]
  exact⟨Nat.zero_le _,fun t ht=>by cases ht⟩
section
variable [Env] {vs:List V} {σ:St} {k:ah}
theorem abP {P:Program} [Go.Ev.eQ P] {f:FuncId} {vs:List V} {σ:St} {O:List Ev.Told} (hO:∀e∈O,e.ok P) (n:Nat) (h:(AJ P O n (.call f vs) σ).check ye=true):ag P f vs (fun v _=>v=.bool true) σ:=
 ⟨(cC.HM (n:=n) hO (bw.nm h)).mono fun⟨o,τ⟩ hx=>by
   cases o with
   | val v=>
    cases v with
    | bool b=>have hx:b=true:=hx;rw[hx];rfl
    | _=>cases hx
   | exit e a=>cases hx⟩
theorem S29:ag Tryz.prog 29 [] (fun v _=>v=.bool true) Go.Ev.start:=abP (n:=100000) tW.Hk tW.Pj
variable [aZ]
def ZB (n:Nat) (v:V):Prop:=v=.int .i64 0∨(v=.int .i64 1∧n≤60)
omit [aZ] in
theorem ZB.gK {n:Nat}:∀v,ZB n v→eA v:=fun v h=>by
 rcases h with rfl | ⟨rfl,_⟩
 ·exact eA.int _ _
 ·exact eA.int _ _
theorem W9 (h:abG vs σ k):ag Tryz.prog 68 vs k σ:=by
 obtain⟨l,hf,h0,h1⟩:=h
 have hc:Go.Ev.Clean (ae V.str 1 l):=fh l
 refine ag.bc (A:=ZB l.length) hf ZB.gK ?_ fun v hv=>by
  rcases hv with rfl | ⟨rfl,h⟩
  ·exact h0
  ·exact h1 h
 by_cases hl:l.length≤60
 ·refine F68.cf (live:=sr) (call:=v8) (n₀:=0) (fun h=>su h) rfl 1 (by kernel_rfl) Nat.lt_wfRel.wf (fun _ ss=>60-cb ss) (Uf V.str 1 l) (wa hc) ?_ ?_
  ·rw[Ue]
   exact⟨rfl,aa.mk (fun e=>absurd (of_decide_eq_true e) (by omega)) fun _=>⟨0,by omega,by omega,rfl⟩⟩
  ·intro k hk ss hI
   obtain rfl:k=0:=by omega
   obtain⟨i,h0,h1,rfl⟩:=hI
   rw[r68]
   refine⟨rfl,aa.mk (fun e=>?_) fun _=>.inr ⟨rfl,hl⟩⟩
   have e:=of_decide_eq_true e
   refine⟨⟨h0,e⟩,rfl,aa.mk (fun _=>.inl rfl) fun _=>⟨⟨i+1,by omega,by omega,by rw[i64_in _ (by omega)]⟩,?_⟩⟩
   rw[i64_in _ (by omega),mj,mj]
   show 60-(i+1).toNat<60-i.toNat
   omega
 ·refine F68.cf (live:=sr) (call:=v8) (n₀:=0) (fun h=>su h) rfl 1 (by kernel_rfl) Nat.lt_wfRel.wf (fun _ _=>0) (fun _ _=>False) (fun _ _ h=>h.elim) ?_ fun _ _ _ h=>h.elim
  rw[Ue]
  exact⟨rfl,aa.mk (fun _=>.inl rfl) fun e=>absurd (of_decide_eq_false e) (by omega)⟩
theorem GG:∀ {f:FuncId} {vs:List V} {σ:St} {k:ah},Dx f vs σ k→ag Tryz.prog f vs k σ:=fun h=>aH W9 S2 h
theorem Xa (h:abJ vs σ k):ag Tryz.prog 28 vs k σ:=by
 obtain⟨e,rfl,h0,h1⟩:=h
 refine ag.bc (A:=ZB e.f7.length) (yi e.aJ) ZB.gK (F28.flat (live:=zI) (call:=Dx) (n₀:=0) (fun h=>GG h) rfl (by kernel_rfl) ?_) fun v hv=>by
  rcases hv with rfl | ⟨rfl,h⟩
  ·exact h0
  ·exact h1 h
 rw[ah5]
 exact⟨e.f7,yi (fh _),⟨rfl,.inl rfl⟩,fun h60=>⟨rfl,[e.f1,e.f2,e.f3,e.f4,e.f5,e.f8.f0],Cw _ rfl (by kernel_rfl),⟨rfl,.inl rfl⟩,fun _=>⟨rfl,⟨e.f9,rfl⟩,⟨rfl,.inl rfl⟩,rfl,⟨e.f8.f3,rfl⟩,⟨rfl,.inl rfl⟩,rfl,.inr ⟨rfl,h60⟩⟩⟩⟩
theorem S6:∀ {f:FuncId} {vs:List V} {σ:St} {k:ah},UP f vs σ k→ag Tryz.prog f vs k σ:=fun h=>aH Xa GG h
omit [aZ] in
theorem abQ (h:W29 vs σ k):ag Tryz.prog 29 vs k σ:=by
 obtain⟨rfl,h⟩:=h
 exact ag.one .nil rfl S29 h
theorem S7:∀ {f:FuncId} {vs:List V} {σ:St} {k:ah},M5 f vs σ k→ag Tryz.prog f vs k σ:=fun h=>aH abQ S6 h
set_option maxRecDepth 100000 in
theorem S5 (l:List af) (c:an) (hl:∀t∈l,e8 t) (hc:gL c):ag Tryz.prog 5 [ae af.enc 3 l,an.enc c] (fun v _=>v=.bool true) Go.Ev.start:=by
 refine F5.flat (live:=UQ) (call:=M5) (n₀:=0) (fun h=>S7 h) rfl (by kernel_rfl) ?_
 obtain⟨h1,h2⟩:=Pk l c
 rw[e5]
 refine⟨⟨l,rfl⟩,⟨rfl,rfl,rfl⟩,rfl,c,rfl,⟨rfl,rfl,rfl⟩,fun h60=>⟨rfl,l,c,rfl,⟨hc,by omega,hl⟩,l,c,rfl,⟨hc,by omega,hl⟩,gq l c,gq l c,rfl,⟨by omega,fun t ht=>by have:=(h2 t ht).2;omega⟩,fun b hb=>?_⟩⟩
 obtain rfl:b=true:=hb.2 rfl
 refine cB rfl (cB rfl (cB rfl ⟨rfl,aq (fun _=>cB rfl ⟨c,rfl,cB (by simp [V.beq,V.fJ,an.cells,ae]) ⟨c,rfl,bt c,bt c,rfl,?_,fun b hb=>?_⟩⟩) fun h=>absurd rfl h⟩))
 ·have:=Gz c
  omega
 ·obtain rfl:b=true:=hb.2 rfl
  exact cB rfl ⟨rfl,cB rfl rfl⟩
end
end Go.Proofs.YtbajncpfmemdgaaGreatDoor
end
section
namespace Go.Ev
open Go
def gr [Env] (us vs:List V):Prop:=∀(ρ:aA) (xs:List Value),ay ρ us xs→ay ρ vs xs
def GH (P:Program) (t:TypeId):Option (List TypeId):=
 match P.underlying t with
 | some (.struct fs)=>some (fs.toList.map (·.type))
 | _=>none
def m5 (r:TypeId→List V→Prop):List TypeId→List (List V)→Prop
 | [],[]=>True
 | t::ts,p::ps=>r t p∧m5 r ts ps
 | _,_=>False
section
variable [Env] {P:Program} {d:Nat} {t:TypeId} {us:List V}
theorem gr.refl (us:List V):gr us us:=fun _ _ h=>h
theorem gr.append {a b c e:List V} (h:gr a b) (k:gr c e):gr (a++c) (b++e):=fun ρ xs hx=>by
 have h1:=hx.take a.length
 have h2:=hx.drop a.length
 rw[List.take_left' rfl] at h1
 rw[List.drop_left' rfl] at h2
 have e:xs=xs.take a.length++xs.drop a.length:=(List.take_append_drop _ _).symm
 rw[e]
 exact(h ρ _ h1).append (k ρ _ h2)
omit [Env] in
theorem m5.of {r:TypeId→List V→Prop}:∀ {fs:List Field} {ps:List (List V)},Lr r fs ps→m5 r (fs.map (·.type)) ps
 | [],[],_=>trivial
 | _::_,_::_,h=>⟨h.1,m5.of h.2⟩
omit [Env] in
theorem m5.cons {r:TypeId→List V→Prop} {t:TypeId} {ts:List TypeId} {ps:List (List V)} (h:m5 r (t::ts) ps):∃p qs,ps=p::qs∧r t p∧m5 r ts qs:=by
 cases ps with
 | nil=>exact h.elim
 | cons p qs=>exact⟨p,qs,rfl,h.1,h.2⟩
omit [Env] in
theorem m5.nil {r:TypeId→List V→Prop} {ps:List (List V)} (h:m5 r [] ps):ps=[]:=by
 cases ps with
 | nil=>rfl
 | cons p qs=>exact h.elim
omit [Env] in
theorem cy.struct {tys:List TypeId} (ht:GH P t=some tys) (h:cy P d t us):∃d' ps,us=ps.flatten∧m5 (cy P d') tys ps:=by
 cases d with
 | zero=>exact h.elim
 | succ d=>
  unfold GH at ht
  split at ht
  ·rename_i fs hu
   cases ht
   unfold cy at h
   rw[hu] at h
   obtain⟨ps,h1,h2⟩:=h
   exact⟨d,ps,h1,m5.of h2⟩
  ·cases ht
omit [Env] in
theorem cy.int {k:IntKind} (hu:P.underlying t=some (.int k)) (h:cy P d t us):∃n,us=[.int k n]:=by
 cases d with
 | zero=>exact h.elim
 | succ d=>unfold cy at h;rw[hu] at h;obtain⟨n,h,_⟩:=h;exact⟨n,h⟩
omit [Env] in
theorem cy.bool (hu:P.underlying t=some .bool) (h:cy P d t us):∃b,us=[.bool b]:=by
 cases d with
 | zero=>exact h.elim
 | succ d=>unfold cy at h;rw[hu] at h;exact h
omit [Env] in
theorem cy.str (hu:P.underlying t=some .string) (h:cy P d t us):∃s,us=[.str s]:=by
 cases d with
 | zero=>exact h.elim
 | succ d=>unfold cy at h;rw[hu] at h;obtain⟨n,h,_⟩:=h;exact⟨n,h⟩
omit [Env] in
theorem pg {α:Type} [Inhabited α] (enc:α→V) (l:List α):cn l.length (fun i=>enc (l.getD i default))=l.map enc:=by
 apply List.ext_getElem?
 intro i
 by_cases h:i<l.length
 ·rw[dB h,List.getElem?_map,List.getElem?_eq_getElem h,List.getD_eq_getElem?_getD,List.getElem?_eq_getElem h];rfl
 ·rw[List.getElem?_eq_none (by rw[bg];omega),List.getElem?_eq_none (by rw[List.length_map];omega)]
theorem cy.slice {e:TypeId} {α:Type} [Inhabited α] {enc:α→V} {esz:Nat} (hu:P.underlying t=some (.slice e)) (dH:P.cellsOf e=esz) (bk:∀a,(enc a).cells.length=esz)
  (H:∀ {d:Nat} {us:List V},cy P d e us→∃a,gr us (enc a).cells) (h:cy P d t us):∃l:List α,gr us [ae enc esz l]:=by
 cases d with
 | zero=>exact h.elim
 | succ d=>
  unfold cy at h
  rw[hu] at h
  obtain⟨es,rfl,_,vr⟩:=h
  have key:∀es:List (List V),(∀x∈es,cy P d e x)→∃l:List α,l.length=es.length∧∀(ρ:aA) (ys:List Value),ay ρ (ax (es.map (rj P e))) ys→ay ρ (ax (l.map enc)) ys:=by
   intro es
   induction es with
   | nil=>exact fun _=>⟨[],rfl,fun _ _ h=>h⟩
   | cons x es ih=>
    intro hx
    obtain⟨l,h1,h2⟩:=ih fun y hy=>hx y (List.mem_cons_of_mem _ hy)
    obtain⟨a,ha⟩:=H (hx x List.mem_cons_self)
    refine⟨a::l,by simp [h1],?_⟩
    have hc:=(hx x List.mem_cons_self).cells
    intro ρ ys hy
    rw[List.map_cons,ca] at hy⊢
    rw[hc] at hy
    exact gr.append (fun ρ xs h=>ha ρ xs h) (fun ρ xs h=>h2 ρ xs h) ρ ys hy
  obtain⟨l,h1,h2⟩:=key es vr
  refine⟨l,fun ρ xs hx=>?_⟩
  cases hx with
  | cons hx hl=>
   cases hl
   refine .cons (.arr (fun h=>by cases h) (AL (ρ':=ρ) (fun _ _ _ h=>h) (dH▸hx) (fun ys hy=>?_) ?_ ?_ fun h=>by cases h)) .nil
   ·rw[pg];exact h2 ρ ys hy
   ·rw[pg]
    intro v hv
    obtain⟨a,_,rfl⟩:=List.mem_map.1 hv
    exact bk a
   ·rw[bg,List.length_map,h1]
end
end Go.Ev
end
