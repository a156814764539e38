/- Proved: parts of the way: BD9, BEq26, Awk10T0, Awk10T1, Awk10Run, BD10, Srt. -/
import Derived.Test.YtbajncpfmemdgaaGreatDoorEvQ21
import Derived.Test.YtbajncpfmemdgaaGreatDoorProg
import Derived.Test.YtbajncpfmemdgaaGreatDoorEvQ10
import Derived.ProofKit
import Derived.Test.YtbajncpfmemdgaaGreatDoorEvQ18
import Derived.Shelf.SlSortCmp.WholeK
set_option linter.unusedVariables false
set_option linter.unusedSimpArgs false
section
namespace Go.Proofs.YtbajncpfmemdgaaGreatDoor
open Go Go.Ev Go.IntWalk
def cN (n:Nat) (f:Nat→V) (l:List aa):Prop:=n=l.length∧∀i,i<n→f i=aa.enc (l.getD i default)
theorem cN.one (x:aa):cN 1 (fun _=>.agg (aa.cells x)) [x]:=⟨rfl,fun i hi=>by
 obtain rfl:=Nat.lt_one_iff.1 hi
 rfl⟩
theorem cN.push {n:Nat} {f:Nat→V} {l:List aa} (h:cN n f l) (x:aa):cN (n+1) (dY n f fun _=>.agg (aa.cells x)) (l++[x]):=by
 obtain⟨rfl,h2⟩:=h
 refine⟨by simp,fun i hi=>?_⟩
 by_cases e:i=l.length
 ·subst e;rw[Fb];simp [List.getD_eq_getElem?_getD];rfl
 ·rw[Fa _ _ (by omega),h2 i (by omega)]
  simp [List.getD_eq_getElem?_getD,List.getElem?_append_left (show i<l.length by omega)]
theorem cN.cl [Env] {n:Nat} {f:Nat→V} {l:List aa} (h:cN n f l):∀i,i<n→∀u∈(f i).cells,Go.Ev.Clean u:=fun i hi u hu=>by
 rw[h.2 i hi] at hu;exact aa.clean _ u hu
theorem lr {f:Nat→V} {i:Nat} {v:V} (h:v=f i):fq f i v=f:=funext fun j=>by
 by_cases e:j=i
 ·subst e;rw[vo,h]
 ·rw[vp _ _ e]
theorem Jf {c:ak} (h:1≤c.f0∧c.f0≤5) (t u u':aa):kE c t u=kE c t u':=by
 rcases(show c.f0=1∨c.f0=2∨c.f0=3∨c.f0=4∨c.f0=5 by omega) with h | h | h | h | h
 ·exact(xn h t u).trans (xn h t u').symm
 ·exact(I0 h t u).trans (I0 h t u').symm
 ·exact(Dl h t u).trans (Dl h t u').symm
 ·exact(I3 h t u).trans (I3 h t u').symm
 ·exact(Dm h t u).trans (Dm h t u').symm
def Jg (x:aa):Prop:=0<x.f2.length∧x.f2.length≤1000
theorem mM {c:ak} {t u:aa} (hr:¬(c.f0<1∨6<c.f0)) (h:kE c t u=0) (ht:c.f0≠1→bu t=0):∀x∈kT c t,Jg x:=by
 have g:∀ {x:aa},bu x=0→0<x.f2.length∧x.f2.length≤8∧1≤x.f1:=fun h=>by have:=(lX h).1;obtain⟨_,h1,h2,_⟩:=this;omega
 rcases(show c.f0=1∨c.f0=2∨c.f0=3∨c.f0=4∨c.f0=5∨c.f0=6 by omega) with h0 | h0 | h0 | h0 | h0 | h0
 ·rw[xo h0];rw[xn h0] at h
  intro x hx
  rw[List.mem_singleton.1 hx]
  have:=g h
  exact⟨by omega,by omega⟩
 ·rw[I1 h0]
  have:=g (ht (by omega))
  intro x hx
  rw[List.mem_singleton.1 hx]
  have e:(zO t c.f8).f2.length=t.f2.length+1:=by show(t.f2++[c.f8]).length=_;simp
  exact⟨by omega,by omega⟩
 ·rw[I2 h0];rw[Dl h0] at h
  have:=g (ht (by omega))
  intro x hx
  rw[List.mem_singleton.1 hx]
  have hk:¬bw t c.f5<t.f1:=fun h'=>by unfold Bu at h;rw[if_pos h'] at h;cases h
  have h1:(Ix t c.f5).f2≠[]:=vG (decide_eq_true (by omega)) _ (by omega)
  have h2:=kU (fun i=>decide ((i:Int)≠bw t c.f5)) (fun i=>t.f2.getD i default) t.f2.length
  exact⟨List.length_pos_iff.2 h1,Nat.le_trans h2 (by omega)⟩
 ·rw[I4 h0]
  have:=g (ht (by omega))
  intro x hx
  rw[List.mem_singleton.1 hx]
  have e:(uf t c.f5 c.f6).f2.length=t.f2.length:=by show(t.f2.set _ _).length=_;simp
  exact⟨by omega,by omega⟩
 ·rw[I5 h0]
  have:=g (ht (by omega))
  have bQ:∀b,fw t c b t.f2.length≠[]:=fun b=>vG (o4 (by omega)) _ (by omega)
  have hle:∀b,(fw t c b t.f2.length).length≤t.f2.length:=fun b=>kU _ _ _
  intro x hx
  rcases List.mem_cons.1 hx with rfl | hx
  ·exact⟨List.length_pos_iff.2 (bQ true),Nat.le_trans (hle true) (by omega)⟩
  ·rw[List.mem_singleton.1 hx]
   exact⟨List.length_pos_iff.2 (bQ false),Nat.le_trans (hle false) (by omega)⟩
 ·rw[I6 h0]
  have:=g (ht (by omega))
  intro x hx
  rw[List.mem_singleton.1 hx]
  exact⟨by show 0<t.f2.length;omega,by show t.f2.length≤1000;omega⟩
noncomputable def Xw (l:List aa) (S:List (List UInt8)) (i:Nat):List aa:=(S.take i).map (aX l)
def lu (l:List aa) (c:ak) (ty:TypeId) (S:List (List UInt8)):Nat→List SV→Prop
 | 0,ss=>cn l=0∧∃i:Nat,i≤S.length∧(∀j,j<i→¬l9 l S j)∧((i=0∧ss=[.val (ae aa.enc 3 l),.val (.iface ty (ak.enc c)),.val .ai,.val (ae V.str 1 S),.val (ae V.str 1 S),.val (.int .i64 ((S.length:Nat):Int)),.val (.int .i64 (i:Int))])∨
   ∃n f,0<i∧cN n f (Xw l S i)∧ss=[.val (ae aa.enc 3 l),.val (.iface ty (ak.enc c)),.row n f 3,.val (ae V.str 1 S),.val (ae V.str 1 S),.val (.int .i64 ((S.length:Nat):Int)),.val (.int .i64 (i:Int))])
 | 1,ss=>(cn l=0∧eB l S=0∧kE c (aX l c.f1) (aX l c.f2)=0)∧∃(i:Nat) (T:List aa),T=kT c (aX l c.f1)∧i≤T.length∧(∀j,j<i→¬o6 l S T j)∧
   ss=[.val (ae aa.enc 3 l),.val (.iface ty (ak.enc c)),.val (ae V.str 1 S),.row T.length (fun j=>aa.enc (T.getD j default)) 3,.al 0 T.length 3,.val (.int .i64 ((T.length:Nat):Int)),.val (.int .i64 (i:Int))]
 | _,_=>False
def GP (S:List (List UInt8)):Nat→List SV→Nat
 | 0,ss=>10+(S.length-cu ss)
 | _,ss=>2-cu ss
section
variable [Env]
theorem lu.clean {l:List aa} {c:ak} {ty:TypeId} {S:List (List UInt8)}:∀k ss,lu l c ty S k ss→∀s∈ss,s.clean
 | 0,_,⟨_,_,_,_,.inl ⟨_,e⟩⟩=>by subst e;exact aw (bK l) (aw (Go.Ev.Clean.iface c.aG) (aw Go.Ev.Clean.ai (aw (et _) (aw (et _) (aE (aE bM))))))
 | 0,_,⟨_,_,_,_,.inr ⟨_,_,_,hr,e⟩⟩=>by subst e;exact aw (bK l) (aw (Go.Ev.Clean.iface c.aG) (aw hr.cl (aw (et _) (aw (et _) (aE (aE bM))))))
 | 1,_,⟨_,_,_,_,_,_,e⟩=>by subst e;exact aw (bK l) (aw (Go.Ev.Clean.iface c.aG) (aw (et _) (aw (fun _ _=>aa.clean _) (aw trivial (aE (aE bM))))))
 | n+2,_,h=>h.elim
theorem fV {τ:St} {b n:Nat} {f:Nat→V} {p:Bool} {L:List aa} (hb:τ.heap.get b=some (.row n f 3 p)) (hr:cN n f L):dQ τ (.own b n 3) (ae aa.enc 3 L):=by
 obtain⟨rfl,h⟩:=hr
 exact .own (g:=fun i=>aa.enc (L.getD i default)) hb (fun i hi=>by rw[h i hi];exact jh (aa.clean _)) fun i hi=>rfl
omit [Env] in
theorem cN.of (l:List aa):cN l.length (fun i=>aa.enc (l.getD i default)) l:=⟨rfl,fun _ _=>rfl⟩
variable [aC] {vs:List V} {σ:St} {k:ah}
set_option maxRecDepth 100000 in
theorem Xx {l:List aa} {c:ak} (hr:c.f0=2) (hS:aK c=[c.f1]) (hc:fi c) (j5:c.f7.length≤1000000) (ht:∀t∈l,dz t) (hk:k (.tuple [ae aa.enc 3 (bY l c),.int .i64 (ct l c)]) σ):bI Tryz.prog 30 [ae aa.enc 3 l,ak.enc c] (bl σ k) Go.Ev.start:=by
 have dT:¬(c.f0<1∨6<c.f0):=by omega
 refine F30.kp (live:=dI) (call:=fH) (fun h=>lq h) 2 (by kernel_rfl) Nat.lt_wfRel.wf (GP [c.f1]) (lu l c 160 [c.f1]) lu.clean ?_ ?_
 ·rw[Dv];unfold pa
  refine⟨c,rfl,?_,?_,?_,?_,?_,?_,?_⟩<;>intro h0
  all_goals first
   | (exfalso;omega)
   | exact⟨l,rfl,fun t h=>dz.gH (ht t h),rfl,av (fun a=>cK hk (pS a) a) fun a=>⟨c,rfl,Decidable.not_not.1 a,0,Nat.zero_le _,fun j hj=>absurd hj (Nat.not_lt_zero j),.inl ⟨rfl,rfl⟩⟩⟩
 ·intro j hj ss hI
  have jZ:=o8 c (aX l c.f1)
  match j,hI with
  | 0,hI=>
   obtain⟨g1,i,hi,hm,⟨rfl,rfl⟩ | ⟨n,f,h0,gd,rfl⟩⟩:=hI
   ·obtain⟨g5,g6⟩:=cJ g1
    rw[Xh];unfold nK;rw[i64_in (((0:Nat):Int)+1) (by omega)]
    refine⟨rfl,av (fun a1=>⟨⟨by omega,by show(0:Int)<1;decide⟩,l,c.f1,rfl,by omega,rfl,av (fun a2=>cK hk ?_ (by decide)) fun a2=>⟨⟨by omega,(cY l c.f1).2⟩,⟨rfl,rfl,rfl⟩,⟨g1,1,Nat.le_refl 1,fun j hj=>?_,.inr ⟨1,_,by omega,cN.one _,rfl⟩⟩,by show 10+(1-(((0:Nat):Int)+1).toNat)<10+(1-((0:Nat):Int).toNat);omega⟩⟩) fun a1=>absurd (show(0:Int)<1 by decide) a1⟩
    ·have:=ll (l:=l) (ss:=aK c) (i:=0) (by rw[hS];exact Nat.zero_lt_succ _) (by rw[hS];exact a2) fun j hj=>absurd hj (Nat.not_lt_zero j)
     exact(sC g1 dT (by rw[this];decide)).trans this
    ·obtain rfl:=Nat.lt_one_iff.1 hj;exact a2
   ·obtain rfl:i=1:=by have:i≤1:=hi;omega
    obtain⟨g5,g6⟩:=cJ g1
    have qK:¬aW l c.f1<0:=hm 0 (by omega)
    have nS:eB l (aK c)=0:=o5 fun j hj=>by rw[hS] at hj⊢;exact hm j hj
    have cL:aX l c.f1∈l:=ba (by have:=cY l c.f1;omega)
    have gd:cN n f [aX l c.f1]:=gd
    have hu:=Jf (c:=c) (by omega) (aX l c.f1) default (aX l c.f2)
    rw[Xm];unfold pc
    refine⟨rfl,av (fun a1=>absurd (show(1:Int)<1 from a1) (by decide)) fun a1=>⟨c,[aX l c.f1],.cons (.clean c.aG) (.cons (fV (p:=false) (by rfl) gd) .nil),⟨hc,hr,j5,Nat.le_refl _,by show 1≤16;decide,fun t h=>?_⟩,fun h0=>⟨rfl,⟨rfl,rfl⟩,⟨⟨g1,by rw[←hS];exact nS,by rw[←hu];exact h0⟩,0,_,rfl,Nat.zero_le _,fun j hj=>absurd hj (Nat.not_lt_zero j),rfl⟩,by show 2-(0:Int).toNat<10+_;have:(0:Int).toNat=0:=rfl;omega⟩,fun h0=>⟨rfl,av (fun a=>?_) fun a=>absurd h0 a⟩⟩⟩
    ·rw[List.mem_singleton.1 h];exact⟨ht _ cL,g6 _ cL⟩
    ·have h0:kE c (aX l c.f1) default≠0:=h0
     exact cK hk (by rw[sD g1 dT nS (by rw[←hu];exact h0),←hu]) h0
  | 1,hI=>
   obtain⟨⟨g1,g3,g4⟩,i,T,rfl,hi,hm,rfl⟩:=hI
   obtain⟨g5,g6⟩:=cJ g1
   have j6:eB l (aK c)=0:=by rw[hS];exact g3
   obtain⟨f1,_⟩:=o7 dT (fun j hj=>fun h=>by
    have h:aW l ((aK c).getD j default)<0:=h
    have:=(ca (fun i=>if aW l ((aK c).getD i default)<0 then(9:Int) else 0) _).1 j6 j hj
    rw[if_pos h] at this;cases this)
   have cL:aX l c.f1∈l:=ba (by have h1:=cY l c.f1;have h2:=f1 (by omega);omega)
   have hU:=mM dT g4 fun _=>g6 _ cL
   generalize hT:kT c (aX l c.f1)=T at *
   have go:¬o6 l [c.f1] T i→i<T.length→lu l c 160 [c.f1] 1 [.val (ae aa.enc 3 l),.val (.iface 160 (ak.enc c)),.val (ae V.str 1 [c.f1]),.row T.length (fq (fun j=>aa.enc (T.getD j default)) i (.agg [.str ((T.getD i default).f0),.int .i64 ((T.getD i default).f1),ae aj.enc 7 ((T.getD i default).f2)])) 3,.al 0 T.length 3,.val (.int .i64 ((T.length:Nat):Int)),.val (.int .i64 (IntKind.i64.wrap ((i:Int)+1)))]∧
     2-(IntKind.i64.wrap ((i:Int)+1)).toNat<2-(i:Int).toNat:=fun h1 h2=>by
    have hu:fq (fun j=>aa.enc (T.getD j default)) i (.agg [.str ((T.getD i default).f0),.int .i64 ((T.getD i default).f1),ae aj.enc 7 ((T.getD i default).f2)])=fun j=>aa.enc (T.getD j default):=lr rfl
    rw[i64_in ((i:Int)+1) (by omega),hu]
    refine⟨⟨⟨g1,g3,g4⟩,i+1,T,hT.symm,by omega,fun j hj=>?_,rfl⟩,by omega⟩
    by_cases e:j=i
    ·subst e;exact h1
    ·exact hm j (by omega)
   rw[Xr];unfold qo xu
   refine⟨rfl,av (fun a1=>⟨⟨by omega,by omega⟩,by omega,l,_,rfl,by omega,rfl,av (fun a2=>⟨c,rfl,.inr (.inl rfl),_,rfl,by show(1:Nat)≤1000000;omega,af.mk (fun a3=>cK hk ?_ (by decide)) fun a3=>⟨_,rfl,hU _ (ba (show i<T.length by omega)),⟨by omega,by omega⟩,by omega,⟨rfl,rfl⟩,go (fun h=>?_) (by omega)⟩⟩) fun a2=>⟨_,rfl,hU _ (ba (show i<T.length by omega)),⟨by omega,by omega⟩,by omega,⟨rfl,rfl⟩,go (fun h=>a2 h.1) (by omega)⟩⟩) fun a1=>?_⟩
   ·rw[dU] at a3
    have h3:¬ 0≤eT [c.f1] (T.getD i default).f0:=fun h=>by
     rw[show decide (0≤cd _ _ _)=true from decide_eq_true h] at a3;cases a3
    have:=oz (l:=l) (ss:=aK c) (o:=T) (i:=i) (by omega) ⟨a2,by rw[hS];omega⟩ (by rw[hS];exact hm)
    rw[jr g1 dT j6 g4,hT];exact this
   ·rw[dU] at a3
    have h3:eT [c.f1] (T.getD i default).f0<0:=h.2
    have h4:¬ 0≤eT [c.f1] (T.getD i default).f0:=by omega
    rw[show decide (0≤cd _ _ _)=false from decide_eq_false h4] at a3;cases a3
   ·obtain rfl:i=T.length:=by omega
    have hz:ct l c=0:=by rw[jr g1 dT j6 g4,hT];exact rl (by rw[hS];exact hm)
    have e':bY l c=T:=(if_pos hz).trans hT
    rw[e',hz] at hk
    exact bl.rk (.cons (fV (p:=false) (by rfl) (cN.of T)) (.cons (.int _ _) .nil)) hk
  | n+2,hI=>exact hI.elim
set_option maxRecDepth 100000 in
theorem Xy {l:List aa} {c:ak} (hr:c.f0=3) (hS:aK c=[c.f1]) (hc:fi c) (j5:c.f7.length≤1000000) (ht:∀t∈l,dz t) (hk:k (.tuple [ae aa.enc 3 (bY l c),.int .i64 (ct l c)]) σ):bI Tryz.prog 30 [ae aa.enc 3 l,ak.enc c] (bl σ k) Go.Ev.start:=by
 have dT:¬(c.f0<1∨6<c.f0):=by omega
 refine F30.kp (live:=dI) (call:=fH) (fun h=>lq h) 2 (by kernel_rfl) Nat.lt_wfRel.wf (GP [c.f1]) (lu l c 161 [c.f1]) lu.clean ?_ ?_
 ·rw[Dv];unfold pa
  refine⟨c,rfl,?_,?_,?_,?_,?_,?_,?_⟩<;>intro h0
  all_goals first
   | (exfalso;omega)
   | exact⟨l,rfl,fun t h=>dz.gH (ht t h),rfl,av (fun a=>cK hk (pS a) a) fun a=>⟨c,rfl,Decidable.not_not.1 a,0,Nat.zero_le _,fun j hj=>absurd hj (Nat.not_lt_zero j),.inl ⟨rfl,rfl⟩⟩⟩
 ·intro j hj ss hI
  have jZ:=o8 c (aX l c.f1)
  match j,hI with
  | 0,hI=>
   obtain⟨g1,i,hi,hm,⟨rfl,rfl⟩ | ⟨n,f,h0,gd,rfl⟩⟩:=hI
   ·obtain⟨g5,g6⟩:=cJ g1
    rw[Xi];unfold nK;rw[i64_in (((0:Nat):Int)+1) (by omega)]
    refine⟨rfl,av (fun a1=>⟨⟨by omega,by show(0:Int)<1;decide⟩,l,c.f1,rfl,by omega,rfl,av (fun a2=>cK hk ?_ (by decide)) fun a2=>⟨⟨by omega,(cY l c.f1).2⟩,⟨rfl,rfl,rfl⟩,⟨g1,1,Nat.le_refl 1,fun j hj=>?_,.inr ⟨1,_,by omega,cN.one _,rfl⟩⟩,by show 10+(1-(((0:Nat):Int)+1).toNat)<10+(1-((0:Nat):Int).toNat);omega⟩⟩) fun a1=>absurd (show(0:Int)<1 by decide) a1⟩
    ·have:=ll (l:=l) (ss:=aK c) (i:=0) (by rw[hS];exact Nat.zero_lt_succ _) (by rw[hS];exact a2) fun j hj=>absurd hj (Nat.not_lt_zero j)
     exact(sC g1 dT (by rw[this];decide)).trans this
    ·obtain rfl:=Nat.lt_one_iff.1 hj;exact a2
   ·obtain rfl:i=1:=by have:i≤1:=hi;omega
    obtain⟨g5,g6⟩:=cJ g1
    have qK:¬aW l c.f1<0:=hm 0 (by omega)
    have nS:eB l (aK c)=0:=o5 fun j hj=>by rw[hS] at hj⊢;exact hm j hj
    have cL:aX l c.f1∈l:=ba (by have:=cY l c.f1;omega)
    have gd:cN n f [aX l c.f1]:=gd
    have hu:=Jf (c:=c) (by omega) (aX l c.f1) default (aX l c.f2)
    rw[Xn];unfold pc
    refine⟨rfl,av (fun a1=>absurd (show(1:Int)<1 from a1) (by decide)) fun a1=>⟨c,[aX l c.f1],.cons (.clean c.aG) (.cons (fV (p:=false) (by rfl) gd) .nil),⟨hc,hr,j5,Nat.le_refl _,by show 1≤16;decide,fun t h=>?_⟩,fun h0=>⟨rfl,⟨rfl,rfl⟩,⟨⟨g1,by rw[←hS];exact nS,by rw[←hu];exact h0⟩,0,_,rfl,Nat.zero_le _,fun j hj=>absurd hj (Nat.not_lt_zero j),rfl⟩,by show 2-(0:Int).toNat<10+_;have:(0:Int).toNat=0:=rfl;omega⟩,fun h0=>⟨rfl,av (fun a=>?_) fun a=>absurd h0 a⟩⟩⟩
    ·rw[List.mem_singleton.1 h];exact⟨ht _ cL,g6 _ cL⟩
    ·have h0:kE c (aX l c.f1) default≠0:=h0
     exact cK hk (by rw[sD g1 dT nS (by rw[←hu];exact h0),←hu]) h0
  | 1,hI=>
   obtain⟨⟨g1,g3,g4⟩,i,T,rfl,hi,hm,rfl⟩:=hI
   obtain⟨g5,g6⟩:=cJ g1
   have j6:eB l (aK c)=0:=by rw[hS];exact g3
   obtain⟨f1,_⟩:=o7 dT (fun j hj=>fun h=>by
    have h:aW l ((aK c).getD j default)<0:=h
    have:=(ca (fun i=>if aW l ((aK c).getD i default)<0 then(9:Int) else 0) _).1 j6 j hj
    rw[if_pos h] at this;cases this)
   have cL:aX l c.f1∈l:=ba (by have h1:=cY l c.f1;have h2:=f1 (by omega);omega)
   have hU:=mM dT g4 fun _=>g6 _ cL
   generalize hT:kT c (aX l c.f1)=T at *
   have go:¬o6 l [c.f1] T i→i<T.length→lu l c 161 [c.f1] 1 [.val (ae aa.enc 3 l),.val (.iface 161 (ak.enc c)),.val (ae V.str 1 [c.f1]),.row T.length (fq (fun j=>aa.enc (T.getD j default)) i (.agg [.str ((T.getD i default).f0),.int .i64 ((T.getD i default).f1),ae aj.enc 7 ((T.getD i default).f2)])) 3,.al 0 T.length 3,.val (.int .i64 ((T.length:Nat):Int)),.val (.int .i64 (IntKind.i64.wrap ((i:Int)+1)))]∧
     2-(IntKind.i64.wrap ((i:Int)+1)).toNat<2-(i:Int).toNat:=fun h1 h2=>by
    have hu:fq (fun j=>aa.enc (T.getD j default)) i (.agg [.str ((T.getD i default).f0),.int .i64 ((T.getD i default).f1),ae aj.enc 7 ((T.getD i default).f2)])=fun j=>aa.enc (T.getD j default):=lr rfl
    rw[i64_in ((i:Int)+1) (by omega),hu]
    refine⟨⟨⟨g1,g3,g4⟩,i+1,T,hT.symm,by omega,fun j hj=>?_,rfl⟩,by omega⟩
    by_cases e:j=i
    ·subst e;exact h1
    ·exact hm j (by omega)
   rw[Xs];unfold qo xu
   refine⟨rfl,av (fun a1=>⟨⟨by omega,by omega⟩,by omega,l,_,rfl,by omega,rfl,av (fun a2=>⟨c,rfl,.inr (.inr (.inl rfl)),_,rfl,by show(1:Nat)≤1000000;omega,af.mk (fun a3=>cK hk ?_ (by decide)) fun a3=>⟨_,rfl,hU _ (ba (show i<T.length by omega)),⟨by omega,by omega⟩,by omega,⟨rfl,rfl⟩,go (fun h=>?_) (by omega)⟩⟩) fun a2=>⟨_,rfl,hU _ (ba (show i<T.length by omega)),⟨by omega,by omega⟩,by omega,⟨rfl,rfl⟩,go (fun h=>a2 h.1) (by omega)⟩⟩) fun a1=>?_⟩
   ·rw[dU] at a3
    have h3:¬ 0≤eT [c.f1] (T.getD i default).f0:=fun h=>by
     rw[show decide (0≤cd _ _ _)=true from decide_eq_true h] at a3;cases a3
    have:=oz (l:=l) (ss:=aK c) (o:=T) (i:=i) (by omega) ⟨a2,by rw[hS];omega⟩ (by rw[hS];exact hm)
    rw[jr g1 dT j6 g4,hT];exact this
   ·rw[dU] at a3
    have h3:eT [c.f1] (T.getD i default).f0<0:=h.2
    have h4:¬ 0≤eT [c.f1] (T.getD i default).f0:=by omega
    rw[show decide (0≤cd _ _ _)=false from decide_eq_false h4] at a3;cases a3
   ·obtain rfl:i=T.length:=by omega
    have hz:ct l c=0:=by rw[jr g1 dT j6 g4,hT];exact rl (by rw[hS];exact hm)
    have e':bY l c=T:=(if_pos hz).trans hT
    rw[e',hz] at hk
    exact bl.rk (.cons (fV (p:=false) (by rfl) (cN.of T)) (.cons (.int _ _) .nil)) hk
  | n+2,hI=>exact hI.elim
set_option maxRecDepth 100000 in
theorem Xz {l:List aa} {c:ak} (hr:c.f0=4) (hS:aK c=[c.f1]) (hc:fi c) (j5:c.f7.length≤1000000) (ht:∀t∈l,dz t) (hk:k (.tuple [ae aa.enc 3 (bY l c),.int .i64 (ct l c)]) σ):bI Tryz.prog 30 [ae aa.enc 3 l,ak.enc c] (bl σ k) Go.Ev.start:=by
 have dT:¬(c.f0<1∨6<c.f0):=by omega
 refine F30.kp (live:=dI) (call:=fH) (fun h=>lq h) 2 (by kernel_rfl) Nat.lt_wfRel.wf (GP [c.f1]) (lu l c 162 [c.f1]) lu.clean ?_ ?_
 ·rw[Dv];unfold pa
  refine⟨c,rfl,?_,?_,?_,?_,?_,?_,?_⟩<;>intro h0
  all_goals first
   | (exfalso;omega)
   | exact⟨l,rfl,fun t h=>dz.gH (ht t h),rfl,av (fun a=>cK hk (pS a) a) fun a=>⟨c,rfl,Decidable.not_not.1 a,0,Nat.zero_le _,fun j hj=>absurd hj (Nat.not_lt_zero j),.inl ⟨rfl,rfl⟩⟩⟩
 ·intro j hj ss hI
  have jZ:=o8 c (aX l c.f1)
  match j,hI with
  | 0,hI=>
   obtain⟨g1,i,hi,hm,⟨rfl,rfl⟩ | ⟨n,f,h0,gd,rfl⟩⟩:=hI
   ·obtain⟨g5,g6⟩:=cJ g1
    rw[Xj];unfold nK;rw[i64_in (((0:Nat):Int)+1) (by omega)]
    refine⟨rfl,av (fun a1=>⟨⟨by omega,by show(0:Int)<1;decide⟩,l,c.f1,rfl,by omega,rfl,av (fun a2=>cK hk ?_ (by decide)) fun a2=>⟨⟨by omega,(cY l c.f1).2⟩,⟨rfl,rfl,rfl⟩,⟨g1,1,Nat.le_refl 1,fun j hj=>?_,.inr ⟨1,_,by omega,cN.one _,rfl⟩⟩,by show 10+(1-(((0:Nat):Int)+1).toNat)<10+(1-((0:Nat):Int).toNat);omega⟩⟩) fun a1=>absurd (show(0:Int)<1 by decide) a1⟩
    ·have:=ll (l:=l) (ss:=aK c) (i:=0) (by rw[hS];exact Nat.zero_lt_succ _) (by rw[hS];exact a2) fun j hj=>absurd hj (Nat.not_lt_zero j)
     exact(sC g1 dT (by rw[this];decide)).trans this
    ·obtain rfl:=Nat.lt_one_iff.1 hj;exact a2
   ·obtain rfl:i=1:=by have:i≤1:=hi;omega
    obtain⟨g5,g6⟩:=cJ g1
    have qK:¬aW l c.f1<0:=hm 0 (by omega)
    have nS:eB l (aK c)=0:=o5 fun j hj=>by rw[hS] at hj⊢;exact hm j hj
    have cL:aX l c.f1∈l:=ba (by have:=cY l c.f1;omega)
    have gd:cN n f [aX l c.f1]:=gd
    have hu:=Jf (c:=c) (by omega) (aX l c.f1) default (aX l c.f2)
    rw[Xo];unfold pc
    refine⟨rfl,av (fun a1=>absurd (show(1:Int)<1 from a1) (by decide)) fun a1=>⟨c,[aX l c.f1],.cons (.clean c.aG) (.cons (fV (p:=false) (by rfl) gd) .nil),⟨hc,hr,j5,Nat.le_refl _,by show 1≤16;decide,fun t h=>?_⟩,fun h0=>⟨rfl,⟨rfl,rfl⟩,⟨⟨g1,by rw[←hS];exact nS,by rw[←hu];exact h0⟩,0,_,rfl,Nat.zero_le _,fun j hj=>absurd hj (Nat.not_lt_zero j),rfl⟩,by show 2-(0:Int).toNat<10+_;have:(0:Int).toNat=0:=rfl;omega⟩,fun h0=>⟨rfl,av (fun a=>?_) fun a=>absurd h0 a⟩⟩⟩
    ·rw[List.mem_singleton.1 h];exact⟨ht _ cL,g6 _ cL⟩
    ·have h0:kE c (aX l c.f1) default≠0:=h0
     exact cK hk (by rw[sD g1 dT nS (by rw[←hu];exact h0),←hu]) h0
  | 1,hI=>
   obtain⟨⟨g1,g3,g4⟩,i,T,rfl,hi,hm,rfl⟩:=hI
   obtain⟨g5,g6⟩:=cJ g1
   have j6:eB l (aK c)=0:=by rw[hS];exact g3
   obtain⟨f1,_⟩:=o7 dT (fun j hj=>fun h=>by
    have h:aW l ((aK c).getD j default)<0:=h
    have:=(ca (fun i=>if aW l ((aK c).getD i default)<0 then(9:Int) else 0) _).1 j6 j hj
    rw[if_pos h] at this;cases this)
   have cL:aX l c.f1∈l:=ba (by have h1:=cY l c.f1;have h2:=f1 (by omega);omega)
   have hU:=mM dT g4 fun _=>g6 _ cL
   generalize hT:kT c (aX l c.f1)=T at *
   have go:¬o6 l [c.f1] T i→i<T.length→lu l c 162 [c.f1] 1 [.val (ae aa.enc 3 l),.val (.iface 162 (ak.enc c)),.val (ae V.str 1 [c.f1]),.row T.length (fq (fun j=>aa.enc (T.getD j default)) i (.agg [.str ((T.getD i default).f0),.int .i64 ((T.getD i default).f1),ae aj.enc 7 ((T.getD i default).f2)])) 3,.al 0 T.length 3,.val (.int .i64 ((T.length:Nat):Int)),.val (.int .i64 (IntKind.i64.wrap ((i:Int)+1)))]∧
     2-(IntKind.i64.wrap ((i:Int)+1)).toNat<2-(i:Int).toNat:=fun h1 h2=>by
    have hu:fq (fun j=>aa.enc (T.getD j default)) i (.agg [.str ((T.getD i default).f0),.int .i64 ((T.getD i default).f1),ae aj.enc 7 ((T.getD i default).f2)])=fun j=>aa.enc (T.getD j default):=lr rfl
    rw[i64_in ((i:Int)+1) (by omega),hu]
    refine⟨⟨⟨g1,g3,g4⟩,i+1,T,hT.symm,by omega,fun j hj=>?_,rfl⟩,by omega⟩
    by_cases e:j=i
    ·subst e;exact h1
    ·exact hm j (by omega)
   rw[Xt];unfold qo xu
   refine⟨rfl,av (fun a1=>⟨⟨by omega,by omega⟩,by omega,l,_,rfl,by omega,rfl,av (fun a2=>⟨c,rfl,.inr (.inr (.inr (.inl rfl))),_,rfl,by show(1:Nat)≤1000000;omega,af.mk (fun a3=>cK hk ?_ (by decide)) fun a3=>⟨_,rfl,hU _ (ba (show i<T.length by omega)),⟨by omega,by omega⟩,by omega,⟨rfl,rfl⟩,go (fun h=>?_) (by omega)⟩⟩) fun a2=>⟨_,rfl,hU _ (ba (show i<T.length by omega)),⟨by omega,by omega⟩,by omega,⟨rfl,rfl⟩,go (fun h=>a2 h.1) (by omega)⟩⟩) fun a1=>?_⟩
   ·rw[dU] at a3
    have h3:¬ 0≤eT [c.f1] (T.getD i default).f0:=fun h=>by
     rw[show decide (0≤cd _ _ _)=true from decide_eq_true h] at a3;cases a3
    have:=oz (l:=l) (ss:=aK c) (o:=T) (i:=i) (by omega) ⟨a2,by rw[hS];omega⟩ (by rw[hS];exact hm)
    rw[jr g1 dT j6 g4,hT];exact this
   ·rw[dU] at a3
    have h3:eT [c.f1] (T.getD i default).f0<0:=h.2
    have h4:¬ 0≤eT [c.f1] (T.getD i default).f0:=by omega
    rw[show decide (0≤cd _ _ _)=false from decide_eq_false h4] at a3;cases a3
   ·obtain rfl:i=T.length:=by omega
    have hz:ct l c=0:=by rw[jr g1 dT j6 g4,hT];exact rl (by rw[hS];exact hm)
    have e':bY l c=T:=(if_pos hz).trans hT
    rw[e',hz] at hk
    exact bl.rk (.cons (fV (p:=false) (by rfl) (cN.of T)) (.cons (.int _ _) .nil)) hk
  | n+2,hI=>exact hI.elim
set_option maxRecDepth 100000 in
theorem XA {l:List aa} {c:ak} (hr:c.f0=5) (hS:aK c=[c.f1]) (hc:fi c) (j5:c.f7.length≤1000000) (ht:∀t∈l,dz t) (hk:k (.tuple [ae aa.enc 3 (bY l c),.int .i64 (ct l c)]) σ):bI Tryz.prog 30 [ae aa.enc 3 l,ak.enc c] (bl σ k) Go.Ev.start:=by
 have dT:¬(c.f0<1∨6<c.f0):=by omega
 refine F30.kp (live:=dI) (call:=fH) (fun h=>lq h) 2 (by kernel_rfl) Nat.lt_wfRel.wf (GP [c.f1]) (lu l c 163 [c.f1]) lu.clean ?_ ?_
 ·rw[Dv];unfold pa
  refine⟨c,rfl,?_,?_,?_,?_,?_,?_,?_⟩<;>intro h0
  all_goals first
   | (exfalso;omega)
   | exact⟨l,rfl,fun t h=>dz.gH (ht t h),rfl,av (fun a=>cK hk (pS a) a) fun a=>⟨c,rfl,Decidable.not_not.1 a,0,Nat.zero_le _,fun j hj=>absurd hj (Nat.not_lt_zero j),.inl ⟨rfl,rfl⟩⟩⟩
 ·intro j hj ss hI
  have jZ:=o8 c (aX l c.f1)
  match j,hI with
  | 0,hI=>
   obtain⟨g1,i,hi,hm,⟨rfl,rfl⟩ | ⟨n,f,h0,gd,rfl⟩⟩:=hI
   ·obtain⟨g5,g6⟩:=cJ g1
    rw[Xk];unfold nK;rw[i64_in (((0:Nat):Int)+1) (by omega)]
    refine⟨rfl,av (fun a1=>⟨⟨by omega,by show(0:Int)<1;decide⟩,l,c.f1,rfl,by omega,rfl,av (fun a2=>cK hk ?_ (by decide)) fun a2=>⟨⟨by omega,(cY l c.f1).2⟩,⟨rfl,rfl,rfl⟩,⟨g1,1,Nat.le_refl 1,fun j hj=>?_,.inr ⟨1,_,by omega,cN.one _,rfl⟩⟩,by show 10+(1-(((0:Nat):Int)+1).toNat)<10+(1-((0:Nat):Int).toNat);omega⟩⟩) fun a1=>absurd (show(0:Int)<1 by decide) a1⟩
    ·have:=ll (l:=l) (ss:=aK c) (i:=0) (by rw[hS];exact Nat.zero_lt_succ _) (by rw[hS];exact a2) fun j hj=>absurd hj (Nat.not_lt_zero j)
     exact(sC g1 dT (by rw[this];decide)).trans this
    ·obtain rfl:=Nat.lt_one_iff.1 hj;exact a2
   ·obtain rfl:i=1:=by have:i≤1:=hi;omega
    obtain⟨g5,g6⟩:=cJ g1
    have qK:¬aW l c.f1<0:=hm 0 (by omega)
    have nS:eB l (aK c)=0:=o5 fun j hj=>by rw[hS] at hj⊢;exact hm j hj
    have cL:aX l c.f1∈l:=ba (by have:=cY l c.f1;omega)
    have gd:cN n f [aX l c.f1]:=gd
    have hu:=Jf (c:=c) (by omega) (aX l c.f1) default (aX l c.f2)
    rw[Xp];unfold pc
    refine⟨rfl,av (fun a1=>absurd (show(1:Int)<1 from a1) (by decide)) fun a1=>⟨c,[aX l c.f1],.cons (.clean c.aG) (.cons (fV (p:=false) (by rfl) gd) .nil),⟨hc,hr,j5,Nat.le_refl _,by show 1≤16;decide,fun t h=>?_⟩,fun h0=>⟨rfl,⟨rfl,rfl⟩,⟨⟨g1,by rw[←hS];exact nS,by rw[←hu];exact h0⟩,0,_,rfl,Nat.zero_le _,fun j hj=>absurd hj (Nat.not_lt_zero j),rfl⟩,by show 2-(0:Int).toNat<10+_;have:(0:Int).toNat=0:=rfl;omega⟩,fun h0=>⟨rfl,av (fun a=>?_) fun a=>absurd h0 a⟩⟩⟩
    ·rw[List.mem_singleton.1 h];exact⟨ht _ cL,g6 _ cL⟩
    ·have h0:kE c (aX l c.f1) default≠0:=h0
     exact cK hk (by rw[sD g1 dT nS (by rw[←hu];exact h0),←hu]) h0
  | 1,hI=>
   obtain⟨⟨g1,g3,g4⟩,i,T,rfl,hi,hm,rfl⟩:=hI
   obtain⟨g5,g6⟩:=cJ g1
   have j6:eB l (aK c)=0:=by rw[hS];exact g3
   obtain⟨f1,_⟩:=o7 dT (fun j hj=>fun h=>by
    have h:aW l ((aK c).getD j default)<0:=h
    have:=(ca (fun i=>if aW l ((aK c).getD i default)<0 then(9:Int) else 0) _).1 j6 j hj
    rw[if_pos h] at this;cases this)
   have cL:aX l c.f1∈l:=ba (by have h1:=cY l c.f1;have h2:=f1 (by omega);omega)
   have hU:=mM dT g4 fun _=>g6 _ cL
   generalize hT:kT c (aX l c.f1)=T at *
   have go:¬o6 l [c.f1] T i→i<T.length→lu l c 163 [c.f1] 1 [.val (ae aa.enc 3 l),.val (.iface 163 (ak.enc c)),.val (ae V.str 1 [c.f1]),.row T.length (fq (fun j=>aa.enc (T.getD j default)) i (.agg [.str ((T.getD i default).f0),.int .i64 ((T.getD i default).f1),ae aj.enc 7 ((T.getD i default).f2)])) 3,.al 0 T.length 3,.val (.int .i64 ((T.length:Nat):Int)),.val (.int .i64 (IntKind.i64.wrap ((i:Int)+1)))]∧
     2-(IntKind.i64.wrap ((i:Int)+1)).toNat<2-(i:Int).toNat:=fun h1 h2=>by
    have hu:fq (fun j=>aa.enc (T.getD j default)) i (.agg [.str ((T.getD i default).f0),.int .i64 ((T.getD i default).f1),ae aj.enc 7 ((T.getD i default).f2)])=fun j=>aa.enc (T.getD j default):=lr rfl
    rw[i64_in ((i:Int)+1) (by omega),hu]
    refine⟨⟨⟨g1,g3,g4⟩,i+1,T,hT.symm,by omega,fun j hj=>?_,rfl⟩,by omega⟩
    by_cases e:j=i
    ·subst e;exact h1
    ·exact hm j (by omega)
   rw[Xu];unfold qo xu
   refine⟨rfl,av (fun a1=>⟨⟨by omega,by omega⟩,by omega,l,_,rfl,by omega,rfl,av (fun a2=>⟨c,rfl,.inr (.inr (.inr (.inr (.inl rfl)))),_,rfl,by show(1:Nat)≤1000000;omega,af.mk (fun a3=>cK hk ?_ (by decide)) fun a3=>⟨_,rfl,hU _ (ba (show i<T.length by omega)),⟨by omega,by omega⟩,by omega,⟨rfl,rfl⟩,go (fun h=>?_) (by omega)⟩⟩) fun a2=>⟨_,rfl,hU _ (ba (show i<T.length by omega)),⟨by omega,by omega⟩,by omega,⟨rfl,rfl⟩,go (fun h=>a2 h.1) (by omega)⟩⟩) fun a1=>?_⟩
   ·rw[dU] at a3
    have h3:¬ 0≤eT [c.f1] (T.getD i default).f0:=fun h=>by
     rw[show decide (0≤cd _ _ _)=true from decide_eq_true h] at a3;cases a3
    have:=oz (l:=l) (ss:=aK c) (o:=T) (i:=i) (by omega) ⟨a2,by rw[hS];omega⟩ (by rw[hS];exact hm)
    rw[jr g1 dT j6 g4,hT];exact this
   ·rw[dU] at a3
    have h3:eT [c.f1] (T.getD i default).f0<0:=h.2
    have h4:¬ 0≤eT [c.f1] (T.getD i default).f0:=by omega
    rw[show decide (0≤cd _ _ _)=false from decide_eq_false h4] at a3;cases a3
   ·obtain rfl:i=T.length:=by omega
    have hz:ct l c=0:=by rw[jr g1 dT j6 g4,hT];exact rl (by rw[hS];exact hm)
    have e':bY l c=T:=(if_pos hz).trans hT
    rw[e',hz] at hk
    exact bl.rk (.cons (fV (p:=false) (by rfl) (cN.of T)) (.cons (.int _ _) .nil)) hk
  | n+2,hI=>exact hI.elim
set_option maxRecDepth 100000 in
theorem XB {l:List aa} {c:ak} (hr:c.f0=1) (hS:aK c=[]) (hc:fi c) (j5:c.f7.length≤1000000) (ht:∀t∈l,dz t) (hk:k (.tuple [ae aa.enc 3 (bY l c),.int .i64 (ct l c)]) σ):bI Tryz.prog 30 [ae aa.enc 3 l,ak.enc c] (bl σ k) Go.Ev.start:=by
 have dT:¬(c.f0<1∨6<c.f0):=by omega
 refine F30.kp (live:=dI) (call:=fH) (fun h=>lq h) 2 (by kernel_rfl) Nat.lt_wfRel.wf (GP []) (lu l c 159 []) lu.clean ?_ ?_
 ·rw[Dv];unfold pa
  refine⟨c,rfl,?_,?_,?_,?_,?_,?_,?_⟩<;>intro h0
  all_goals first
   | (exfalso;omega)
   | exact⟨l,rfl,fun t h=>dz.gH (ht t h),rfl,av (fun a=>cK hk (pS a) a) fun a=>⟨c,rfl,Decidable.not_not.1 a,0,Nat.zero_le _,fun j hj=>absurd hj (Nat.not_lt_zero j),.inl ⟨rfl,rfl⟩⟩⟩
 ·intro j hj ss hI
  have jZ:=o8 c (aX l c.f1)
  match j,hI with
  | 0,hI=>
   obtain⟨g1,i,hi,hm,⟨rfl,rfl⟩ | ⟨n,f,h0,gd,rfl⟩⟩:=hI
   ·obtain⟨g5,g6⟩:=cJ g1
    have nS:eB l (aK c)=0:=by rw[hS];rfl
    have hE:∀t u t' u',kE c t u=kE c t' u':=fun t u t' u'=>(xn hr t u).trans (xn hr t' u').symm
    have hT:∀t t',kT c t=kT c t':=fun t t'=>(xo hr t).trans (xo hr t').symm
    rw[Xg];unfold nK
    refine⟨rfl,av (fun a1=>absurd (show(0:Int)<0 from a1) (by decide)) fun a1=>⟨c,[],.cons (.clean c.aG) (.cons Dt .nil),⟨hc,hr,j5,Nat.le_refl _,by show 0≤16;decide,fun t h=>by cases h⟩,fun h0=>⟨rfl,⟨rfl,rfl⟩,⟨⟨g1,rfl,(hE _ _ _ _).trans h0⟩,0,_,hT _ _,Nat.zero_le _,fun j hj=>absurd hj (Nat.not_lt_zero j),rfl⟩,by show 2-(0:Int).toNat<10+_;have:(0:Int).toNat=0:=rfl;omega⟩,fun h0=>⟨rfl,av (fun a=>?_) fun a=>absurd h0 a⟩⟩⟩
    exact cK hk ((sD g1 dT nS (fun h=>h0 ((hE _ _ _ _).trans h))).trans (hE _ _ _ _)) h0
   ·have:i≤0:=hi
    omega
  | 1,hI=>
   obtain⟨⟨g1,g3,g4⟩,i,T,rfl,hi,hm,rfl⟩:=hI
   obtain⟨g5,g6⟩:=cJ g1
   have j6:eB l (aK c)=0:=by rw[hS];exact g3
   have hU:=mM dT g4 fun h=>absurd hr h
   generalize hT:kT c (aX l c.f1)=T at *
   have go:¬o6 l [] T i→i<T.length→lu l c 159 [] 1 [.val (ae aa.enc 3 l),.val (.iface 159 (ak.enc c)),.val (ae V.str 1 []),.row T.length (fq (fun j=>aa.enc (T.getD j default)) i (.agg [.str ((T.getD i default).f0),.int .i64 ((T.getD i default).f1),ae aj.enc 7 ((T.getD i default).f2)])) 3,.al 0 T.length 3,.val (.int .i64 ((T.length:Nat):Int)),.val (.int .i64 (IntKind.i64.wrap ((i:Int)+1)))]∧
     2-(IntKind.i64.wrap ((i:Int)+1)).toNat<2-(i:Int).toNat:=fun h1 h2=>by
    have hu:fq (fun j=>aa.enc (T.getD j default)) i (.agg [.str ((T.getD i default).f0),.int .i64 ((T.getD i default).f1),ae aj.enc 7 ((T.getD i default).f2)])=fun j=>aa.enc (T.getD j default):=lr rfl
    rw[i64_in ((i:Int)+1) (by omega),hu]
    refine⟨⟨⟨g1,g3,g4⟩,i+1,T,hT.symm,by omega,fun j hj=>?_,rfl⟩,by omega⟩
    by_cases e:j=i
    ·subst e;exact h1
    ·exact hm j (by omega)
   rw[Xq]
   refine⟨rfl,av (fun a1=>⟨⟨by omega,by omega⟩,by omega,l,_,rfl,by omega,rfl,av (fun a2=>⟨c,rfl,.inl rfl,cK hk ?_ (by decide)⟩) fun a2=>⟨_,rfl,hU _ (ba (show i<T.length by omega)),⟨by omega,by omega⟩,by omega,⟨rfl,rfl⟩,go (fun h=>a2 h.1) (by omega)⟩⟩) fun a1=>?_⟩
   ·have:=oz (l:=l) (ss:=aK c) (o:=T) (i:=i) (by omega) ⟨a2,by rw[hS];show(-1:Int)<0;decide⟩ (by rw[hS];exact hm)
    rw[jr g1 dT j6 g4,hT];exact this
   ·obtain rfl:i=T.length:=by omega
    have hz:ct l c=0:=by rw[jr g1 dT j6 g4,hT];exact rl (by rw[hS];exact hm)
    have e':bY l c=T:=(if_pos hz).trans hT
    rw[e',hz] at hk
    exact bl.rk (.cons (fV (p:=false) (by rfl) (cN.of T)) (.cons (.int _ _) .nil)) hk
  | n+2,hI=>exact hI.elim
set_option maxRecDepth 100000 in
theorem XC {l:List aa} {c:ak} (hr:c.f0=6) (hS:aK c=[c.f1,c.f2]) (hc:fi c) (j5:c.f7.length≤1000000) (ht:∀t∈l,dz t) (hk:k (.tuple [ae aa.enc 3 (bY l c),.int .i64 (ct l c)]) σ):bI Tryz.prog 30 [ae aa.enc 3 l,ak.enc c] (bl σ k) Go.Ev.start:=by
 have dT:¬(c.f0<1∨6<c.f0):=by omega
 refine F30.kp (live:=dI) (call:=fH) (fun h=>lq h) 2 (by kernel_rfl) Nat.lt_wfRel.wf (GP [c.f1,c.f2]) (lu l c 164 [c.f1,c.f2]) lu.clean ?_ ?_
 ·rw[Dv];unfold pa
  refine⟨c,rfl,?_,?_,?_,?_,?_,?_,?_⟩<;>intro h0
  all_goals first
   | (exfalso;omega)
   | exact⟨l,rfl,fun t h=>dz.gH (ht t h),rfl,av (fun a=>cK hk (pS a) a) fun a=>⟨c,rfl,Decidable.not_not.1 a,0,Nat.zero_le _,fun j hj=>absurd hj (Nat.not_lt_zero j),.inl ⟨rfl,rfl⟩⟩⟩
 ·intro j hj ss hI
  have jZ:=o8 c (aX l c.f1)
  match j,hI with
  | 0,hI=>
   obtain⟨g1,i,hi,hm,⟨rfl,rfl⟩ | ⟨n,f,h0,gd,rfl⟩⟩:=hI
   ·obtain⟨g5,g6⟩:=cJ g1
    rw[Xl];unfold nK;rw[i64_in (((0:Nat):Int)+1) (by omega)]
    refine⟨rfl,av (fun a1=>⟨⟨by omega,by show(0:Int)<2;decide⟩,l,c.f1,rfl,by omega,rfl,av (fun a2=>cK hk ?_ (by decide)) fun a2=>⟨⟨by omega,(cY l c.f1).2⟩,⟨rfl,rfl,rfl⟩,⟨g1,1,Nat.le_succ 1,fun j hj=>?_,.inr ⟨1,_,by omega,cN.one _,rfl⟩⟩,by show 10+(2-(((0:Nat):Int)+1).toNat)<10+(2-((0:Nat):Int).toNat);omega⟩⟩) fun a1=>absurd (show(0:Int)<2 by decide) a1⟩
    ·have:=ll (l:=l) (ss:=aK c) (i:=0) (by rw[hS];exact Nat.zero_lt_succ _) (by rw[hS];exact a2) fun j hj=>absurd hj (Nat.not_lt_zero j)
     exact(sC g1 dT (by rw[this];decide)).trans this
    ·obtain rfl:=Nat.lt_one_iff.1 hj;exact a2
   ·obtain⟨g5,g6⟩:=cJ g1
    have qK:¬aW l c.f1<0:=hm 0 (by omega)
    have cL:aX l c.f1∈l:=ba (by have:=cY l c.f1;omega)
    rcases(show i=1∨i=2 by have:i≤2:=hi;omega) with rfl | rfl
    ·have gd:cN n f [aX l c.f1]:=gd
     have hn:n=1:=gd.1
     rw[PB];unfold pc;rw[i64_in (((1:Nat):Int)+1) (by omega)]
     refine⟨rfl,av (fun a1=>⟨⟨by omega,by show(1:Int)<2;decide⟩,l,c.f2,rfl,by omega,rfl,av (fun a2=>cK hk ?_ (by decide)) fun a2=>⟨⟨by omega,(cY l c.f2).2⟩,⟨rfl,by omega⟩,⟨rfl,rfl⟩,⟨g1,2,Nat.le_refl 2,fun j hj=>?_,.inr ⟨n+1,_,by omega,gd.push (aX l c.f2),rfl⟩⟩,by show 10+(2-(((1:Nat):Int)+1).toNat)<10+(2-((1:Nat):Int).toNat);omega⟩⟩) fun a1=>absurd (show(1:Int)<2 by decide) a1⟩
     ·have:=ll (l:=l) (ss:=aK c) (i:=1) (by rw[hS];exact Nat.le_refl _) (by rw[hS];exact a2) fun j hj=>by
       obtain rfl:=Nat.lt_one_iff.1 hj
       rw[hS];exact qK
      exact(sC g1 dT (by rw[this];decide)).trans this
     ·rcases(show j=0∨j=1 by omega) with rfl | rfl
      ·exact qK
      ·exact a2
    ·have Es:¬aW l c.f2<0:=hm 1 (by omega)
     have nS:eB l (aK c)=0:=o5 fun j hj=>by rw[hS] at hj⊢;exact hm j hj
     have PC:aX l c.f2∈l:=ba (by have:=cY l c.f2;omega)
     have gd:cN n f [aX l c.f1,aX l c.f2]:=gd
     rw[PB];unfold pc
     refine⟨rfl,av (fun a1=>absurd (show(2:Int)<2 from a1) (by decide)) fun a1=>⟨c,[aX l c.f1,aX l c.f2],.cons (.clean c.aG) (.cons (fV (p:=false) (by rfl) gd) .nil),⟨hc,hr,j5,Nat.le_refl _,by show 2≤16;decide,fun t h=>?_⟩,fun h0=>⟨rfl,⟨rfl,rfl⟩,⟨⟨g1,by rw[←hS];exact nS,h0⟩,0,_,rfl,Nat.zero_le _,fun j hj=>absurd hj (Nat.not_lt_zero j),rfl⟩,by show 2-(0:Int).toNat<10+_;have:(0:Int).toNat=0:=rfl;omega⟩,fun h0=>⟨rfl,av (fun a=>?_) fun a=>absurd h0 a⟩⟩⟩
     ·rcases List.mem_cons.1 h with rfl | h
      ·exact⟨ht _ cL,g6 _ cL⟩
      ·rw[List.mem_singleton.1 h];exact⟨ht _ PC,g6 _ PC⟩
     ·exact cK hk (sD g1 dT nS h0) h0
  | 1,hI=>
   obtain⟨⟨g1,g3,g4⟩,i,T,rfl,hi,hm,rfl⟩:=hI
   obtain⟨g5,g6⟩:=cJ g1
   have j6:eB l (aK c)=0:=by rw[hS];exact g3
   obtain⟨f1,_⟩:=o7 dT (fun j hj=>fun h=>by
    have h:aW l ((aK c).getD j default)<0:=h
    have:=(ca (fun i=>if aW l ((aK c).getD i default)<0 then(9:Int) else 0) _).1 j6 j hj
    rw[if_pos h] at this;cases this)
   have cL:aX l c.f1∈l:=ba (by have h1:=cY l c.f1;have h2:=f1 (by omega);omega)
   have hU:=mM dT g4 fun _=>g6 _ cL
   generalize hT:kT c (aX l c.f1)=T at *
   have go:¬o6 l [c.f1,c.f2] T i→i<T.length→lu l c 164 [c.f1,c.f2] 1 [.val (ae aa.enc 3 l),.val (.iface 164 (ak.enc c)),.val (ae V.str 1 [c.f1,c.f2]),.row T.length (fq (fun j=>aa.enc (T.getD j default)) i (.agg [.str ((T.getD i default).f0),.int .i64 ((T.getD i default).f1),ae aj.enc 7 ((T.getD i default).f2)])) 3,.al 0 T.length 3,.val (.int .i64 ((T.length:Nat):Int)),.val (.int .i64 (IntKind.i64.wrap ((i:Int)+1)))]∧
     2-(IntKind.i64.wrap ((i:Int)+1)).toNat<2-(i:Int).toNat:=fun h1 h2=>by
    have hu:fq (fun j=>aa.enc (T.getD j default)) i (.agg [.str ((T.getD i default).f0),.int .i64 ((T.getD i default).f1),ae aj.enc 7 ((T.getD i default).f2)])=fun j=>aa.enc (T.getD j default):=lr rfl
    rw[i64_in ((i:Int)+1) (by omega),hu]
    refine⟨⟨⟨g1,g3,g4⟩,i+1,T,hT.symm,by omega,fun j hj=>?_,rfl⟩,by omega⟩
    by_cases e:j=i
    ·subst e;exact h1
    ·exact hm j (by omega)
   rw[Xv];unfold qo xu
   refine⟨rfl,av (fun a1=>⟨⟨by omega,by omega⟩,by omega,l,_,rfl,by omega,rfl,av (fun a2=>⟨c,rfl,.inr (.inr (.inr (.inr (.inr rfl)))),_,rfl,by show(2:Nat)≤1000000;omega,af.mk (fun a3=>cK hk ?_ (by decide)) fun a3=>⟨_,rfl,hU _ (ba (show i<T.length by omega)),⟨by omega,by omega⟩,by omega,⟨rfl,rfl⟩,go (fun h=>?_) (by omega)⟩⟩) fun a2=>⟨_,rfl,hU _ (ba (show i<T.length by omega)),⟨by omega,by omega⟩,by omega,⟨rfl,rfl⟩,go (fun h=>a2 h.1) (by omega)⟩⟩) fun a1=>?_⟩
   ·rw[dU] at a3
    have h3:¬ 0≤eT [c.f1,c.f2] (T.getD i default).f0:=fun h=>by
     rw[show decide (0≤cd _ _ _)=true from decide_eq_true h] at a3;cases a3
    have:=oz (l:=l) (ss:=aK c) (o:=T) (i:=i) (by omega) ⟨a2,by rw[hS];omega⟩ (by rw[hS];exact hm)
    rw[jr g1 dT j6 g4,hT];exact this
   ·rw[dU] at a3
    have h3:eT [c.f1,c.f2] (T.getD i default).f0<0:=h.2
    have h4:¬ 0≤eT [c.f1,c.f2] (T.getD i default).f0:=by omega
    rw[show decide (0≤cd _ _ _)=false from decide_eq_false h4] at a3;cases a3
   ·obtain rfl:i=T.length:=by omega
    have hz:ct l c=0:=by rw[jr g1 dT j6 g4,hT];exact rl (by rw[hS];exact hm)
    have e':bY l c=T:=(if_pos hz).trans hT
    rw[e',hz] at hk
    exact bl.rk (.cons (fV (p:=false) (by rfl) (cN.of T)) (.cons (.int _ _) .nil)) hk
  | n+2,hI=>exact hI.elim
theorem XD {l:List aa} {c:ak} (hr:c.f0<1∨6<c.f0) (ht:∀t∈l,dz t) (hk:k (.tuple [ae aa.enc 3 (bY l c),.int .i64 (ct l c)]) σ):bI Tryz.prog 30 [ae aa.enc 3 l,ak.enc c] (bl σ k) Go.Ev.start:=by
 refine F30.kp (live:=dI) (call:=fH) (fun h=>lq h) 2 (by kernel_rfl) Nat.lt_wfRel.wf (fun _ _=>0) (fun _ _=>False) (fun _ _ h=>h.elim) ?_ fun _ _ _ h=>h.elim
 rw[Dv];unfold pa
 refine⟨c,rfl,?_,?_,?_,?_,?_,?_,?_⟩<;>intro h0
 all_goals first
  | (exfalso;omega)
  | exact⟨l,rfl,fun t h=>dz.gH (ht t h),rfl,av (fun a=>cK hk (pS a) a) fun a=>cK hk (Pz (Decidable.not_not.1 a) hr) (by decide)⟩
theorem Dw (h:Zq vs σ k):ag Tryz.prog 30 vs k σ:=by
 obtain⟨l,c,rfl,⟨hc,j5,ht⟩,hk⟩:=h
 refine ag.aJ (aA (bK l) (aA c.aG bm)) ?_
 by_cases hr:c.f0<1∨6<c.f0
 ·exact XD hr ht hk
 rcases(show c.f0=1∨c.f0=2∨c.f0=3∨c.f0=4∨c.f0=5∨c.f0=6 by omega) with h0 | h0 | h0 | h0 | h0 | h0
 ·exact XB h0 (Dg h0) hc j5 ht hk
 ·exact Xx h0 (kq (by omega)) hc j5 ht hk
 ·exact Xy h0 (kq (by omega)) hc j5 ht hk
 ·exact Xz h0 (kq (by omega)) hc j5 ht hk
 ·exact XA h0 (kq (by omega)) hc j5 ht hk
 ·exact XC h0 (o3 h0) hc j5 ht hk
theorem Rh:∀ {f:FuncId} {vs:List V} {σ:St} {k:ah},Vr f vs σ k→ag Tryz.prog f vs k σ:=fun h=>aP Dw lq h
end
end Go.Proofs.YtbajncpfmemdgaaGreatDoor
end
section
namespace Go.Proofs.YtbajncpfmemdgaaGreatDoor
open Go Go.Ev
def Vs [Env] (vs:List V) (σ:St) (k:ah):Prop:=
 ∃l:List (List UInt8),bn σ vs [ae V.str 1 l]∧k (.int .i64 0) σ∧(l.length≤60→k (.int .i64 1) σ)
def Jh [Env]:=kS 68 Vs Vr
theorem aby [Env] (A:Nat→List SV→Prop) (Q:V→Prop) (e:ak):WE Tryz.prog 28 Tryz.f28 Jh 0 yz A (fun v _=>Q v) [ak.enc e] Go.Ev.start=
  ((∃Vt:List (List UInt8),bn ⟨(St.new (St.new Go.Ev.start 0 (.cells 18 [] (an (ak.cells e) .leaf 0) true false)) 1 (.cells 6 [] (an [.str e.f1,.str e.f2,.str e.f3,.str e.f4,.str e.f5,.str e.f8.f0] .leaf 0) true false)).heap,2⟩ [ae V.str 1 e.f7] [ae V.str 1 Vt]∧((.i64:IntKind)=.i64∧Q (.int .i64 (0:Int)))∧(Vt.length≤60→((.i64:IntKind)=.i64∧(∃Vu:List (List UInt8),bn ⟨(St.new (St.new Go.Ev.start 0 (.cells 18 [] (an (ak.cells e) .leaf 0) true false)) 1 (.cells 6 [] (an [.str e.f1,.str e.f2,.str e.f3,.str e.f4,.str e.f5,.str e.f8.f0] .leaf 0) true false)).heap,2⟩ [.slice 1 0 (6) (6) true 1] [ae V.str 1 Vu]∧((.i64:IntKind)=.i64∧Q (.int .i64 (0:Int)))∧(Vu.length≤60→((.i64:IntKind)=.i64∧((∃abz:aa,[.agg (aa.cells e.f9)]=[aa.enc abz])∧((.i64:IntKind)=.i64∧Q (.int .i64 (0:Int)))∧((.i64:IntKind)=.i64∧((∃abA:ay,[.agg (ay.cells e.f8.f3)]=[ay.enc abA])∧((.i64:IntKind)=.i64∧Q (.int .i64 (0:Int)))∧((.i64:IntKind)=.i64∧Q (.int .i64 (1:Int))))))))))))):=by kernel_rfl
def Vv [Env] (vs:List V) (σ:St) (k:ah):Prop:=
 ∃e:ak,vs=[ak.enc e]∧k (.int .i64 0) σ∧(e.f7.length≤60→k (.int .i64 1) σ)
def Vw [Env]:=kS 28 Vv Jh
def Zr [Env] (vs:List V) (σ:St) (k:ah):Prop:=
 vs=[]∧k (.bool true) σ
def Vx [Env]:=kS 29 Zr Vw
end Go.Proofs.YtbajncpfmemdgaaGreatDoor
end
section
namespace Go.Proofs.YtbajncpfmemdgaaGreatDoor.sE
open Go.Ev
theorem qp:Tryz.prog.follows .mixedOrders=true:=by kernel_rfl
abbrev i (n:Int):V:=.int .i64 n
def bs (l:List Nat):V:=.str (l.map UInt8.ofNat)
noncomputable def cl (l:List V):Trie V:=an l .leaf 0
noncomputable def cs (l:List (Nat×V)):Trie V:=Bk l .leaf
noncomputable def cat (l:List (List V)):List V:=List.rec (motive:=fun _=>List V) [] (fun a _ ih=>app a ih) l
theorem S9 {P:Program} {a0 a1 a2:Ev.Told} (h0:a0.ok P) (h1:a1.ok P) (h2:a2.ok P):∀e∈[a0,a1,a2],e.ok P:=by
 intro e he
 simp only[List.mem_cons,List.not_mem_nil,or_false] at he
 rcases he with rfl | rfl | rfl
 ·exact h0
 ·exact h1
 ·exact h2
end Go.Proofs.YtbajncpfmemdgaaGreatDoor.sE
end
section
set_option maxRecDepth 100000
namespace Go.Proofs.YtbajncpfmemdgaaGreatDoor.sE
open Go.Ev
noncomputable def t1:Ev.Told where
 f:=30
 args:=[.slice 5 0 1 1 true 3,.agg [i 5,bs [116],bs [],bs [97],bs [98],bs [],i 0,.slice 6 0 1 1 true 1,bs [],i 0,.bool false,i 0,i 0,.int .u64 0,bs [],bs [],i 0,.ai]]
 pre:=[(4,.cells 21 [] (cl ([bs [107],i 2,.bool false,i 0,i 0,.int .u64 0,bs [],bs [118],i 5,.bool true,i 0,i 0,.int .u64 0,bs [],bs [119],i 2,.bool true,i 0,i 0,.int .u64 0,bs []])) true false),(5,.cells 3 [] (cl ([bs [116],i 1,.slice 4 0 3 3 false 7])) true false),(6,.cells 1 [] (cl ([bs [118]])) true false)]
 now:=7
 v:=.tuple [.slice 130 0 2 2 true 3,i 0]
 post:=[(4,some (.cells 21 [] (cl ([bs [107],i 2,.bool false,i 0,i 0,.int .u64 0,bs [],bs [118],i 5,.bool true,i 0,i 0,.int .u64 0,bs [],bs [119],i 2,.bool true,i 0,i 0,.int .u64 0,bs []])) true false)),(5,some (.cells 3 [] (cl ([bs [116],i 1,.slice 4 0 3 3 false 7])) true false)),(6,some (.cells 1 [] (cl ([bs [118]])) true false)),(130,some (.cells 6 [] (cl ([bs [97],i 1,.slice 190 0 2 2 false 7,bs [98],i 1,.slice 195 0 2 2 false 7])) true false)),(190,some (.cells 14 [] (cl ([bs [107],i 2,.bool false,i 0,i 0,.int .u64 0,bs [],bs [118],i 5,.bool true,i 0,i 0,.int .u64 0,bs []])) true false)),(195,some (.cells 14 [] (cl ([bs [107],i 2,.bool false,i 0,i 0,.int .u64 0,bs [],bs [119],i 2,.bool true,i 0,i 0,.int .u64 0,bs []])) true false))]
 then':=196
theorem Pk:t1.ok Tryz.prog:=Ev.Told.mz (O:=[]) qp (fun _ h=>by cases h) 100000 (by kernel_rfl)
noncomputable def t2:Ev.Told where
 f:=36
 args:=[.slice 196 0 1 1 true 3,.agg [i 3,bs [116],bs [],bs [],bs [],bs [118],i 0,.ai,bs [],i 0,.bool false,i 0,i 0,.int .u64 0,bs [],bs [],i 0,.ai]]
 pre:=[(4,.cells 21 [] (cl ([bs [107],i 2,.bool false,i 0,i 0,.int .u64 0,bs [],bs [118],i 5,.bool true,i 0,i 0,.int .u64 0,bs [],bs [119],i 2,.bool true,i 0,i 0,.int .u64 0,bs []])) true false),(196,.cells 3 [] (cl ([bs [116],i 1,.slice 4 0 3 3 false 7])) true false)]
 now:=197
 v:=.tuple [.slice 319 0 1 1 false 3,i 0]
 post:=[(4,some (.cells 21 [] (cl ([bs [107],i 2,.bool false,i 0,i 0,.int .u64 0,bs [],bs [118],i 5,.bool true,i 0,i 0,.int .u64 0,bs [],bs [119],i 2,.bool true,i 0,i 0,.int .u64 0,bs []])) true false)),(196,some (.cells 3 [] (cl ([bs [116],i 1,.slice 4 0 3 3 false 7])) true false)),(313,some (.cells 14 [] (cl ([bs [107],i 2,.bool false,i 0,i 0,.int .u64 0,bs [],bs [119],i 2,.bool true,i 0,i 0,.int .u64 0,bs []])) true false)),(319,some (.cells 3 [] (cl ([bs [116],i 1,.slice 313 0 2 2 false 7])) true false))]
 then':=320
theorem Pl:t2.ok Tryz.prog:=Ev.Told.mz (O:=[]) qp (fun _ h=>by cases h) 100000 (by kernel_rfl)
noncomputable def t3:Ev.Told where
 f:=36
 args:=[.slice 420 0 1 1 true 3,.agg [i 1,bs [],bs [],bs [],bs [],bs [],i 0,.ai,bs [],i 0,.bool false,i 0,i 0,.int .u64 0,bs [],bs [116],i 1,.slice 4 0 3 3 false 7]]
 pre:=[(4,.cells 21 [] (cl ([bs [107],i 2,.bool false,i 0,i 0,.int .u64 0,bs [],bs [118],i 5,.bool true,i 0,i 0,.int .u64 0,bs [],bs [119],i 2,.bool true,i 0,i 0,.int .u64 0,bs []])) true false),(420,.cells 3 [] (cl ([bs [116],i 1,.slice 4 0 3 3 false 7])) true false)]
 now:=421
 v:=.tuple [.ai,i 12]
 post:=[(4,some (.cells 21 [] (cl ([bs [107],i 2,.bool false,i 0,i 0,.int .u64 0,bs [],bs [118],i 5,.bool true,i 0,i 0,.int .u64 0,bs [],bs [119],i 2,.bool true,i 0,i 0,.int .u64 0,bs []])) true false)),(420,some (.cells 3 [] (cl ([bs [116],i 1,.slice 4 0 3 3 false 7])) true false))]
 then':=591
theorem Pm:t3.ok Tryz.prog:=Ev.Told.mz (O:=[]) qp (fun _ h=>by cases h) 100000 (by kernel_rfl)
end Go.Proofs.YtbajncpfmemdgaaGreatDoor.sE
end
section
namespace Go.Proofs.YtbajncpfmemdgaaGreatDoor.sE
open Go.Ev
theorem Le:(zn Tryz.prog [t1,t2,t3] 100000 (.call 29 (qT ([].map (jc Tryz.prog)) 0)) Ev.start).check w6=true:=by kernel_rfl
theorem Eg:∀e∈[t1,t2,t3],e.ok Tryz.prog:=(S9 Pk Pl Pm)
end Go.Proofs.YtbajncpfmemdgaaGreatDoor.sE
end
section
namespace Go.Proofs.YtbajncpfmemdgaaGreatDoor
open Go Go.Ev Go.IntWalk
theorem iV {l:List aa} {c:ak} (h:ct l c=0):cn l=0∧¬(c.f0<1∨6<c.f0)∧eB l (aK c)=0∧kE c (aX l c.f1) (aX l c.f2)=0:=by
 have h1:cn l=0:=Classical.byContradiction fun g=>g (by rw[pS g] at h;exact h)
 have h2:¬(c.f0<1∨6<c.f0):=fun g=>by rw[Pz h1 g] at h;cases h
 have h3:eB l (aK c)=0:=Classical.byContradiction fun g=>g (by rw[sC h1 h2 g] at h;exact h)
 exact⟨h1,h2,h3,Classical.byContradiction fun g=>g (by rw[sD h1 h2 h3 g] at h;exact h)⟩
theorem ui (l:List aa) (c:ak):(bY l c).length≤2∧∀t∈bY l c,Jg t:=by
 by_cases h:ct l c=0
 ·have e:bY l c=kT c (aX l c.f1):=if_pos h
  rw[e]
  obtain⟨h1,h2,h3,h4⟩:=iV h
  refine⟨o8 _ _,mM h2 h4 fun h5=>?_⟩
  obtain⟨f1,_⟩:=o7 h2 (fun j hj=>fun h=>by
   have h:aW l ((aK c).getD j default)<0:=h
   have:=(ca (fun i=>if aW l ((aK c).getD i default)<0 then(9:Int) else 0) _).1 h3 j hj
   rw[if_pos h] at this;cases this)
  exact(cJ h1).2 _ (ba (by have g1:=cY l c.f1;have g2:=f1 h5;omega))
 ·have e:bY l c=[]:=if_neg h
  rw[e]
  exact⟨Nat.zero_le _,fun t ht=>by cases ht⟩
section
variable [Env] {vs:List V} {σ:St} {k:ah}
theorem Vy {P:Program} [Go.Ev.eJ P] {f:FuncId} {vs:List V} {σ:St} {O:List Ev.Told} (hO:∀e∈O,e.ok P) (n:Nat) (h:(zn P O n (.call f vs) σ).check w6=true):ag P f vs (fun v _=>v=.bool true) σ:=
 ⟨(cm.EI (n:=n) hO (bA.mq h)).mono fun⟨o,τ⟩ hx=>by
   cases o with
   | val v=>
    cases v with
    | bool b=>have hx:b=true:=hx;rw[hx];rfl
    | _=>cases hx
   | exit e a=>cases hx⟩
theorem S29:ag Tryz.prog 29 [] (fun v _=>v=.bool true) Go.Ev.start:=Vy (n:=100000) sE.Eg sE.Le
variable [aC]
def ZB (n:Nat) (v:V):Prop:=v=.int .i64 0∨(v=.int .i64 1∧n≤60)
omit [aC] in
theorem ZB.gb {n:Nat}:∀v,ZB n v→dG v:=fun v h=>by
 rcases h with rfl | ⟨rfl,_⟩
 ·exact dG.int _ _
 ·exact dG.int _ _
theorem Ri (h:Vs vs σ k):ag Tryz.prog 68 vs k σ:=by
 obtain⟨l,hf,h0,h1⟩:=h
 have hc:Go.Ev.Clean (ae V.str 1 l):=et l
 refine ag.aT (A:=ZB l.length) hf ZB.gb ?_ fun v hv=>by
  rcases hv with rfl | ⟨rfl,h⟩
  ·exact h0
  ·exact h1 h
 by_cases hl:l.length≤60
 ·refine F68.cx (live:=q0) (call:=tY) (n₀:=0) (fun h=>q3 h) rfl 1 (by kernel_rfl) Nat.lt_wfRel.wf (fun _ ss=>60-cu ss) (KJ V.str 1 l) (pM hc) ?_ ?_
  ·rw[Ph]
   exact⟨rfl,af.mk (fun e=>absurd (of_decide_eq_true e) (by omega)) fun _=>⟨0,by omega,by omega,rfl⟩⟩
  ·intro k hk ss hI
   obtain rfl:k=0:=by omega
   obtain⟨i,h0,h1,rfl⟩:=hI
   rw[Ys]
   refine⟨rfl,af.mk (fun e=>?_) fun _=>.inr ⟨rfl,hl⟩⟩
   have e:=of_decide_eq_true e
   refine⟨⟨h0,e⟩,rfl,af.mk (fun _=>.inl rfl) fun _=>⟨⟨i+1,by omega,by omega,by rw[i64_in _ (by omega)]⟩,?_⟩⟩
   rw[i64_in _ (by omega),iD,iD]
   show 60-(i+1).toNat<60-i.toNat
   omega
 ·refine F68.cx (live:=q0) (call:=tY) (n₀:=0) (fun h=>q3 h) rfl 1 (by kernel_rfl) Nat.lt_wfRel.wf (fun _ _=>0) (fun _ _=>False) (fun _ _ h=>h.elim) ?_ fun _ _ _ h=>h.elim
  rw[Ph]
  exact⟨rfl,af.mk (fun _=>.inl rfl) fun e=>absurd (of_decide_eq_false e) (by omega)⟩
theorem GQ:∀ {f:FuncId} {vs:List V} {σ:St} {k:ah},Jh f vs σ k→ag Tryz.prog f vs k σ:=fun h=>aP Ri Rh h
theorem Rj (h:Vv vs σ k):ag Tryz.prog 28 vs k σ:=by
 obtain⟨e,rfl,h0,h1⟩:=h
 refine ag.aT (A:=ZB e.f7.length) (tZ e.aG) ZB.gb (F28.flat (live:=yz) (call:=Jh) (n₀:=0) (fun h=>GQ h) rfl (by kernel_rfl) ?_) fun v hv=>by
  rcases hv with rfl | ⟨rfl,h⟩
  ·exact h0
  ·exact h1 h
 rw[aby]
 exact⟨e.f7,tZ (et _),⟨rfl,.inl rfl⟩,fun Vz=>⟨rfl,[e.f1,e.f2,e.f3,e.f4,e.f5,e.f8.f0],AM _ rfl (by kernel_rfl),⟨rfl,.inl rfl⟩,fun _=>⟨rfl,⟨e.f9,rfl⟩,⟨rfl,.inl rfl⟩,rfl,⟨e.f8.f3,rfl⟩,⟨rfl,.inl rfl⟩,rfl,.inr ⟨rfl,Vz⟩⟩⟩⟩
theorem Rk:∀ {f:FuncId} {vs:List V} {σ:St} {k:ah},Vw f vs σ k→ag Tryz.prog f vs k σ:=fun h=>aP Rj GQ h
omit [aC] in
theorem VA (h:Zr vs σ k):ag Tryz.prog 29 vs k σ:=by
 obtain⟨rfl,h⟩:=h
 exact ag.one .nil rfl S29 h
theorem Rl:∀ {f:FuncId} {vs:List V} {σ:St} {k:ah},Vx f vs σ k→ag Tryz.prog f vs k σ:=fun h=>aP VA Rk h
end
end Go.Proofs.YtbajncpfmemdgaaGreatDoor
end
section
namespace Go.Ev
open Go Go.RowKit Go.Proofs Go.Shelf Go.Lib
section
variable {P:Program} [Env] {σ:St}
theorem bf.grown {ids:Nat→Prop} {ρ:Go.Ev.Ren} {w:World} (h:R ρ σ w) (os:Array Obj):bf ids ρ σ w ρ σ (Sort.grow w os):=by
 have hk:∀c,c<w.heap.size→(Sort.grow w os).heap[c]? =w.heap[c]? :=fun c hc=>Array.getElem?_append_left hc
 have hs:w.heap.size≤(Sort.grow w os).heap.size:=by rw[Sort.size_grow];omega
 refine⟨⟨fun b k hb=>?_,h.inj,h.fresh,fun b l hb=>Nat.lt_of_lt_of_le (h.valid b l hb) hs,fun c o x hx=>?_,h.laid⟩,Ren.le.refl ρ,Nat.le_refl _,fun b l hb=>.inl hb,hs,rfl,rfl,rfl,fun c hc _=>hk c hc,fun c _ h=>h,fun b k hb=>.inl ⟨k,hb⟩,fun c o x hx=>.inl hx⟩
 ·obtain⟨l,hl,hb⟩:=h.cP b k hb
  exact⟨l,hl,hb.same (Ren.le.refl ρ) (hk l.c (h.valid b l hl))⟩
 ·obtain⟨a1,a2⟩:=h.aL c o x hx
  exact⟨by rw[cell?_of_block (hk c (eX a1))];exact a1,a2⟩
end
def eC (n i:Nat):Nat:=if i<n then i else 0
theorem N6 {n:Nat} (h:0<n) (i:Nat):eC n i<n:=by unfold eC;split<;>omega
theorem pd {n i:Nat} (h:i<n):eC n i=i:=if_pos h
def jj (s t:List UInt8):Int:=if Op.bytesLess s t=true then -1 else if s=t then 0 else 1
noncomputable def fj (n:Nat) (nm:Nat→List UInt8):Array Nat:=Sort.pdq (ltOf fun x y=>jj (nm (eC n x)) (nm (eC n y))) (Array.range n) 0 n (Lib.bitLen n) true true
theorem Lf (h:Sort.SWO (ltOf jj)) (nm:Nat→List UInt8):Sort.SWO (ltOf fun x y=>jj (nm x) (nm y)):=
 ⟨fun _=>h.irrefl _,fun _ _ _=>h.trans _ _ _,fun _ _ _=>h.ntrans _ _ _⟩
theorem Lg {n i:Nat} (h:i<n):(Array.range n)[i]! =i:=by
 rw[getElem!_pos _ i (by simpa using h),Array.getElem_range]
theorem rm (h:Sort.SWO (ltOf jj)) (n:Nat) (nm:Nat→List UInt8):(fj n nm).size=n∧(fj n nm).toList.Perm (List.range n)∧∀i j,i<j→j<n→Op.bytesLess (nm (eC n (fj n nm)[j]!)) (nm (eC n (fj n nm)[i]!))=false:=by
 have hk:=Sort.pdq_sorts (ltOf fun x y=>jj (nm (eC n x)) (nm (eC n y))) (Lf h fun i=>nm (eC n i)) (Array.range n) 0 n (Lib.bitLen n) true true (Nat.zero_le _) (by simp) (Or.inl rfl)
 obtain⟨⟨h1,_,h2⟩,h3⟩:=hk
 have hs:(fj n nm).size=n:=h1.trans Array.size_range
 refine⟨hs,?_,fun i j hi hj=>?_⟩
 ·have e1:(fj n nm).extract 0 n=fj n nm:=by
   conv=>lhs;arg 3;rw[←hs]
   exact Array.extract_size
  have e2:(Array.range n).extract 0 n=Array.range n:=by
   conv=>lhs;arg 3;rw[←Array.size_range (n:=n)]
   exact Array.extract_size
  rw[e2] at h2
  have h2:((fj n nm).extract 0 n).toList.Perm (Array.range n).toList:=h2
  rw[e1] at h2
  simpa using h2
 ·have:=h3 i j (Nat.zero_le _) hi hj
  unfold ltOf at this
  have h4:=of_decide_eq_false this
  cases e:Op.bytesLess (nm (eC n (fj n nm)[j]!)) (nm (eC n (fj n nm)[i]!)) with
  | false=>rfl
  | true=>
   exact absurd (show jj (nm (eC n (fj n nm)[j]!)) (nm (eC n (fj n nm)[i]!))<0 by unfold jj;rw[if_pos e];decide) h4
theorem vI (h:Sort.SWO (ltOf jj)) {n:Nat} {nm:Nat→List UInt8} {i:Nat} (hi:i<n):(fj n nm)[i]! < n:=by
 obtain⟨h1,h2,_⟩:=rm h n nm
 have:(fj n nm)[i]! ∈(fj n nm).toList:=by
  rw[getElem!_pos _ i (by omega)]
  exact Array.getElem_mem_toList (by omega)
 exact List.mem_range.1 (h2.mem_iff.1 this)
section
variable {P:Program} [Env] {σ:St}
theorem ag.XE {fs g:Nat} {b n:Nat} {f:Nat→V} {qg:V} {q q':bV} {nm:Nat→List UInt8} (hb:σ.heap.get b=some q) (Lh:∀(ρ:Go.Ev.Ren) (x:Value),aq ρ qg x→aq ρ (.own b n 3) x)
  (hq:∀(ρ:Go.Ev.Ren) (w:World) (l:Loc),cC ρ w l q→cC ρ w l (.row n f 3 false)) (iA:∀(ρ:Go.Ev.Ren) (w:World) (l:Loc),cC ρ w l (.row n (fun i=>f (fj n nm)[i]!) 3 false)→cC ρ w l q')
  (hn:0<n) (nP:n<4611686018427387904)
  (hf:∀i,i<n→∃u v,(f i).cells=[.str (nm i),u,v]∧u.scalar=true∧v.scalar=true) (hS:Sort.SWO (ltOf jj))
  (abB:∀args w,(callFunc fs args).run P w=.ok (.enter fs args) w)
  (iZ:∀(s t:List UInt8) (a b c d:Value) (W:World),a.oneCell'=true→b.oneCell'=true→c.oneCell'=true→d.oneCell'=true→Calls P g #[.agg #[.string ⟨⟨s⟩⟩,a,b],.agg #[.string ⟨⟨t⟩⟩,c,d]] W fun e w'=>e=.returned (.int .i64 (jj s t))∧∃q os,w'=Sort.grow (W.drewN q) os)
  (abC:∀(enc:Nat→List Value) (cf:Nat→Nat→Int) (cP off cap:Nat) (d:Array Nat) (w:World),(∀x,(enc x).length=3)→(∀x,∀v∈enc x,v.oneCell'=true)→Sort.SWO (ltOf cf)→CmpLays P g #[] enc 3 cf cP off d.size w→Sort.HoldsK enc 3 w cP off d→cP<w.heap.size→d.size<4611686018427387904→
   Calls P fs #[.slice (some ⟨cP,off,none⟩) d.size cap,.func (.func g) #[] #[]] w fun e w'=>e=.returned (.tuple #[])∧∃n os,w'=sortWorldK enc 3 w cP off n (Sort.pdq (ltOf cf) d 0 d.size (Lib.bitLen d.size) true true) os):
  ag P fs [qg,.func (.func g) [] []] (fun v τ=>v=.tuple []∧τ=σ.set b q') σ:=by
 refine⟨⟨⟨(.val (.tuple []),_),rfl,rfl⟩,?_⟩⟩
 intro ρ w vs' hr hv
 obtain⟨a1,r1,h1,h2,rfl⟩:∃a l,aq ρ qg a∧au ρ [.func (.func g) [] []] l∧vs'=a::l:=by cases hv with | cons h1 h2=>exact⟨_,_,h1,h2,rfl⟩
 obtain⟨c,h3,rfl⟩:∃c,aq ρ (.func (.func g) [] []) c∧r1=[c]:=by cases h2 with | cons h3 h4=>cases h4;exact⟨_,h3,rfl⟩
 obtain rfl:c=.func (.func g) ⟨[]⟩ ⟨[]⟩:=by
  cases h3 with
  | func hf hx hy=>cases hx;cases hy;cases hf;rfl
 refine⟨abB _ _,?_⟩
 cases Lh ρ _ h1 with
 | own hl hc hN=>
  rename_i l cap
  obtain⟨l',cF,hk⟩:=hr.cP b _ hb
  rw[hl] at cF;cases cF
  cases hq ρ w l hk with
  | row hs nr hu jl ue hp=>
   have key:∀i,∃ys:List Value,i<n→au ρ (f i).cells ys∧∀(k:Nat) (x:Value),ys[k]? =some x→w.cell? ⟨l.c,l.o+(i*3+k),none⟩=some x:=fun i=>by
    by_cases hi:i<n
    ·obtain⟨ys,a,b⟩:=oI (jl i hi)
     exact⟨ys,fun _=>⟨a,b⟩⟩
    ·exact⟨[],fun h=>absurd h hi⟩
   obtain⟨ys,VB⟩:=Classical.axiomOfChoice key
   have form:∀i,i<n→∃u v,ys i=[.string ⟨⟨nm i⟩⟩,u,v]∧u.oneCell'=true∧v.oneCell'=true:=fun i hi=>by
    obtain⟨u,v,e,s1,s2⟩:=hf i hi
    have h:=(VB i hi).1
    rw[e] at h
    generalize ys i=zs at h
    cases h with
    | cons g1 g2=>cases g2 with
     | cons g3 g4=>cases g4 with
      | cons g5 g6=>cases g6;cases g1;exact⟨_,_,rfl,g3.ml s1,g5.ml s2⟩
   have PD:=N6 hn
   have hd:(Array.range n).size=n:=Array.size_range
   have VC:∀x,(ys (eC n x)).length=3:=fun x=>by obtain⟨u,v,e,_⟩:=form _ (PD x);rw[e];rfl
   have abD:∀x,∀v∈ys (eC n x),v.oneCell'=true:=fun x v hv=>by
    obtain⟨u,z,e,s1,s2⟩:=form _ (PD x)
    rw[e] at hv
    simp only[List.mem_cons,List.not_mem_nil,or_false] at hv
    rcases hv with rfl | rfl | rfl
    ·rfl
    ·exact s1
    ·exact s2
   have hH:Sort.HoldsK (fun x=>ys (eC n x)) 3 w l.c l.o (Array.range n):=fun j hj=>by
    rw[Sort.size_flatK,hd] at hj
    rw[Sort.get_flatK _ _ _ _ (by rw[hd];exact hj)]
    have hi:j/3<n:=by omega
    rw[Lg hi,pd hi]
    have hk:j%3<(ys (j/3)).length:=by have:=VC (j/3);rw[pd hi] at this;omega
    refine⟨?_,ue _ (by omega)⟩
    have:=(VB _ hi).2 (j%3) _ (List.getElem?_eq_getElem hk)
    rw[show j/3*3+j%3=j by omega] at this
    rw[this,show(ys (j/3))[j%3]! =(ys (j/3))[j%3] from getElem!_pos (ys (j/3)) (j%3) hk];rfl
   have hC:CmpLays P g #[] (fun x=>ys (eC n x)) 3 (fun x y=>jj (nm (eC n x)) (nm (eC n y))) l.c l.o (Array.range n).size w:=fun m os dk _ x y=>by
    obtain⟨u,v,e1,s1,s2⟩:=form _ (PD x)
    obtain⟨u',v',e2,s3,s4⟩:=form _ (PD y)
    simp only[e1,e2]
    exact iZ _ _ _ _ _ _ _ s1 s2 s3 s4
   have hL:=abC _ _ l.c l.o cap (Array.range n) w VC abD (Lf hS fun i=>nm (eC n i)) hC hH (hr.valid b l hl) (by rw[hd];exact nP)
   rw[hd] at hL
   obtain⟨z1,z2,_⟩:=rm hS n nm
   refine(callsIn_wide.2 hL).mono fun e w' hx=>?_
   obtain⟨rfl,m,os,rfl⟩:=hx
   refine⟨.tuple [],_,ρ,_,⟨rfl,rfl⟩,rfl,.tuple .nil,?_⟩
   have hH2:Sort.HoldsK (fun x=>ys (eC n x)) 3 (Sort.putRowK (fun x=>ys (eC n x)) 3 (Sort.ahead w m) l.c l.o (fj n nm)) l.c l.o (fj n nm):=Sort.holdsK_putRowK _ 3 _ l.c l.o (Array.range n) _ (Sort.holdsK_ahead _ _ _ _ _ _ _ hH) (by rw[z1,hd])
   have wo:∀i,(Sort.putRowK (fun x=>ys (eC n x)) 3 (Sort.ahead w m) l.c l.o (fj n nm)).frozen? ⟨l.c,i,none⟩=w.frozen? ⟨l.c,i,none⟩:=fun i=>Sort.frozen?_mapBlock _ _ _ _
   have RX:(Sort.putRowK (fun x=>ys (eC n x)) 3 (Sort.ahead w m) l.c l.o (fj n nm)).shape? l.c=w.shape? l.c:=by
    unfold World.shape?
    show(match (w.heap.modify l.c _)[l.c]? with | some (.cells c elem _)=>some (elem,c.size) | _=>none)=_
    rw[Array.getElem?_modify,if_pos rfl]
    cases w.heap[l.c]? with
    | none=>rfl
    | some o=>cases o<;>first | rfl | (simp [Sort.onCells,Sort.putCells])
   have VD:bf pw ρ σ w ρ (σ.set b q') (Sort.putRowK (fun x=>ys (eC n x)) 3 (Sort.ahead w m) l.c l.o (fj n nm)):=by
    refine bf.set hr hb hl rfl (by show(w.heap.modify _ _).size=_;simp) (fun c hc=>?_) rfl rfl rfl ?_
    ·show(w.heap.modify l.c _)[c]? =_
     rw[Array.getElem?_modify,if_neg (Ne.symm hc)]
    ·refine iA _ _ _ (.row (by rw[RX];exact hs) nr (fun i hi=>hu _ (vI hS hi)) (fun i hi k v hv=>?_) (fun i hi=>by rw[wo];exact ue i hi) (fun h=>by cases h))
     have VE:=vI hS (nm:=nm) hi
     have Zs:k<3:=by have:=(List.getElem?_eq_some_iff.1 hv).1;rw[hu _ VE] at this;exact this
     obtain⟨x,g1,g2⟩:=(VB _ VE).1.get k hv
     refine⟨x,?_,g2⟩
     have g3:=(hH2 (i*3+k) (by rw[Sort.size_flatK,z1];omega)).1
     rw[Sort.get_flatK _ _ _ _ (by rw[z1];omega),show(i*3+k)/3=i by omega,show(i*3+k)%3=k by omega,pd VE] at g3
     rw[g3]
     obtain⟨q1,q2⟩:=List.getElem?_eq_some_iff.1 g1
     show some ((ys (fj n nm)[i]!)[k]!)=_
     rw[show(ys (fj n nm)[i]!)[k]! =(ys (fj n nm)[i]!)[k] from getElem!_pos (ys (fj n nm)[i]!) k q1,q2]
   exact VD.trans (bf.grown VD.r os)
end
end Go.Ev
end
