/- Proved: parts of the way: BE4, Typed, XC, BD11, BE5. -/
import Derived.Test.YtbajncpfmemdgaaGreatDoorEvQ27
import Derived.Test.YtbajncpfmemdgaaGreatDoorEvQ13
import Derived.Test.YtbajncpfmemdgaaGreatDoorEvQ26
set_option linter.unusedVariables false
set_option linter.unusedSimpArgs false
section
namespace Go.Proofs.YtbajncpfmemdgaaGreatDoor
open Go Go.Ev Go.IntWalk
theorem F80:bc Tryz.prog 80 Tryz.f80:=.of (by kernel_rfl) (by kernel_rfl)
theorem F37:bc Tryz.prog 37 Tryz.f37:=.of (by kernel_rfl) (by kernel_rfl)
section
variable {α:Type} {nm:α→List UInt8} {t:α}
theorem x9:∀ {a b:List α},(∀x∈a,¬Op.bytesLess (nm t) (nm x)=true)→fg nm t (a++b)=a++fg nm t b
 | [],_,_=>rfl
 | x::a,b,h=>by
  show(if Op.bytesLess (nm t) (nm x)=true then _ else x::fg nm t (a++b))=_
  rw[if_neg (h x List.mem_cons_self),x9 fun y hy=>h y (List.mem_cons_of_mem _ hy)];rfl
theorem Cd:∀ {a b:List α},(∃x∈a,Op.bytesLess (nm t) (nm x)=true)→fg nm t (a++b)=fg nm t a++b
 | [],_,⟨_,h,_⟩=>by cases h
 | x::a,b,⟨y,hy,h⟩=>by
  show(if Op.bytesLess (nm t) (nm x)=true then _ else x::fg nm t (a++b))=(if Op.bytesLess (nm t) (nm x)=true then _ else x::fg nm t a)++b
  by_cases e:Op.bytesLess (nm t) (nm x)=true
  ·rw[if_pos e,if_pos e];rfl
  ·rw[if_neg e,if_neg e,Cd]
   ·rfl
   ·rcases List.mem_cons.1 hy with rfl | hy
    ·exact absurd h e
    ·exact⟨y,hy,h⟩
theorem take_one [Inhabited α] {l:List α} {i:Nat} (h:i<l.length):l.take (i+1)=l.take i++[l.getD i default]:=by
 rw[gR h,List.take_append_getElem h]
end
theorem cz.two (x y:ae):cz 2 (jK [.agg (ae.cells x),.agg (ae.cells y)]) [x,y]:=⟨rfl,fun i hi=>by
 rcases(show i=0∨i=1 by omega) with rfl | rfl<;>rfl⟩
theorem cz.cg {n:Nat} {f:Nat→V} {l m:List ae} (h:cz n f l) (e:l=m):cz n f m:=e▸h
def OK (t x:ae):Prop:=Op.bytesLess (dW t) (dW x)=true
def T7 (l:List ae) (t:ae):Nat→List SV→Prop
 | 0,ss=>∃i:Nat,i≤l.length∧((i=0∧ss=[.val (af ae.enc 3 l),.box (ae.cells t),.val .aj,.val (.bool false),.val (.int .i64 (0:Int))])∨
   ∃(n:Nat) (f:Nat→V),0<i∧((∀x∈l.take i,¬OK t x)∧cz n f (l.take i)∧ss=[.val (af ae.enc 3 l),.box (ae.cells t),.row n f 3,.val (.bool false),.val (.int .i64 (i:Int))]∨
    (∃x∈l.take i,OK t x)∧cz n f (fg dW t (l.take i))∧ss=[.val (af ae.enc 3 l),.box (ae.cells t),.row n f 3,.val (.bool true),.val (.int .i64 (i:Int))]))
 | _,_=>False
section
variable [Env]
theorem T7.clean {l:List ae} {t:ae}:∀k ss,T7 l t k ss→∀s∈ss,s.clean
 | 0,_,⟨_,_,.inl ⟨_,e⟩⟩=>by subst e;exact ax (bE l) (ax (ae.clean t) (ax Go.Ev.Clean.aj (ax (Go.Ev.Clean.bool _) (ay bg))))
 | 0,_,⟨_,_,.inr ⟨_,_,_,.inl ⟨_,hr,e⟩⟩⟩=>by subst e;exact ax (bE l) (ax (ae.clean t) (ax hr.cl (ax (Go.Ev.Clean.bool _) (ay bg))))
 | 0,_,⟨_,_,.inr ⟨_,_,_,.inr ⟨_,hr,e⟩⟩⟩=>by subst e;exact ax (bE l) (ax (ae.clean t) (ax hr.cl (ax (Go.Ev.Clean.bool _) (ay bg))))
 | n+1,_,h=>h.elim
theorem Ce {σ τ:St} {k:ai} {b n:Nat} {f:Nat→V} {p:Bool} {L:List ae} (hb:τ.heap.get b=some (.row n f 3 p)) (hr:cz n f L) (hk:k (.own σ.next n 3) (σ.new σ.next (.row n (fun i=>ae.enc (L.getD i default)) 3 false))):aK σ k (.own b n 3) τ:=
 aK.row (.own hb fun i hi=>by rw[hr.2 i hi];exact fO (ae.clean _)) hk
variable [aL] {vs:List V} {σ:St} {k:ai}
set_option maxRecDepth 100000 in
theorem aby (h:W80 vs σ k):ag Tryz.prog 80 vs k σ:=by
 obtain⟨l,t,hf,hn,hk⟩:=h
 have hp:(fg dW t l).length=l.length+1:=(kr dW t l).length_eq
 refine ag.lX hf (F80.gV (live:=vN) (call:=tt) (fun h=>F3 h) 1 (by kernel_rfl) Nat.lt_wfRel.wf (fun _ ss=>l.length-bF ss) (T7 l t) T7.clean ?_ ?_)
 ·rw[e80]
  exact⟨0,Nat.zero_le _,.inl ⟨rfl,rfl⟩⟩
 ·intro j hj ss hI
  obtain rfl:j=0:=by omega
  obtain⟨i,hi,⟨rfl,rfl⟩ | ⟨n,f,h0,⟨hu,hr,rfl⟩ | ⟨hu,hr,rfl⟩⟩⟩:=hI
  ·rw[ahR]
   refine⟨rfl,aq (fun a1=>⟨⟨by omega,by omega⟩,aa.mk (fun a2=>⟨⟨by omega,by omega⟩,⟨rfl,rfl⟩,?_⟩) fun a2=>⟨⟨by omega,by omega⟩,⟨rfl,rfl,rfl⟩,?_⟩⟩) fun a1=>?_⟩
   ·rw[show(0:Int).toNat=0 from rfl] at a2⊢
    rw[i64_in ((0:Int)+1) (by omega)]
    have e1:l.take 1=[l.getD 0 default]:=take_one (i:=0) (by omega)
    refine⟨⟨1,by omega,.inr ⟨2,_,by omega,.inr ⟨⟨_,by rw[e1];exact List.mem_singleton.2 rfl,a2⟩,?_,rfl⟩⟩⟩,?_⟩
    ·rw[e1]
     exact(cz.two t (l.getD 0 default)).cg (by unfold fg;rw[if_pos (show Op.bytesLess (dW t) (dW (l.getD 0 default))=true from a2)])
    ·show l.length-((0:Int)+1).toNat<l.length-(0:Int).toNat
     omega
   ·rw[show(0:Int).toNat=0 from rfl] at a2⊢
    rw[i64_in ((0:Int)+1) (by omega)]
    have e1:l.take 1=[l.getD 0 default]:=take_one (i:=0) (by omega)
    refine⟨⟨1,by omega,.inr ⟨1,_,by omega,.inl ⟨fun x hx=>?_,by rw[e1];exact cz.one _,rfl⟩⟩⟩,?_⟩
    ·rw[e1] at hx
     rw[List.mem_singleton.1 hx]
     intro g
     have g:Op.bytesLess t.f0 (l.getD 0 default).f0=true:=g
     rw[a2] at g;cases g
    ·show l.length-((0:Int)+1).toNat<l.length-(0:Int).toNat
     omega
   ·obtain rfl:l=[]:=List.eq_nil_of_length_eq_zero (by omega)
    exact aK.row (.slice (by rfl) (.inr ⟨rfl,rfl,by decide⟩) (fun i hi=>rfl) fun i hi=>⟨ae.cells t,by obtain rfl:=Nat.lt_one_iff.1 hi;rfl,by obtain rfl:=Nat.lt_one_iff.1 hi;exact fO (ae.clean t)⟩) hk
  ·have F4:=hr.1
   have Da:(l.take i).length=i:=by rw[List.length_take];omega
   rw[ahS]
   refine⟨rfl,aq (fun a1=>⟨⟨by omega,by omega⟩,aa.mk (fun a2=>⟨⟨rfl,by omega⟩,⟨by omega,by omega⟩,⟨rfl,by omega⟩,⟨rfl,rfl⟩,?_⟩) fun a2=>⟨⟨by omega,by omega⟩,⟨rfl,by omega⟩,⟨rfl,rfl⟩,?_⟩⟩) fun a1=>⟨⟨rfl,by omega⟩,?_⟩⟩
   ·rw[cA] at a2⊢
    rw[i64_in ((i:Int)+1) (by omega)]
    have e1:=take_one (l:=l) (i:=i) (by omega)
    refine⟨⟨i+1,by omega,.inr ⟨n+1+1,_,by omega,.inr ⟨⟨_,by rw[e1];exact List.mem_append_right _ (List.mem_singleton.2 rfl),a2⟩,?_,rfl⟩⟩⟩,pY (by omega)⟩
    refine((hr.push t).push _).cg ?_
    rw[e1,x9 hu]
    show(l.take i++[t])++[l.getD i default]=l.take i++(if Op.bytesLess (dW t) (dW (l.getD i default))=true then [t,l.getD i default] else _)
    rw[if_pos (show Op.bytesLess (dW t) (dW (l.getD i default))=true from a2),List.append_assoc];rfl
   ·rw[cA] at a2⊢
    rw[i64_in ((i:Int)+1) (by omega)]
    have e1:=take_one (l:=l) (i:=i) (by omega)
    refine⟨⟨i+1,by omega,.inr ⟨n+1,_,by omega,.inl ⟨fun x hx=>?_,(hr.push _).cg e1.symm,rfl⟩⟩⟩,pY (by omega)⟩
    rw[e1] at hx
    rcases List.mem_append.1 hx with hx | hx
    ·exact hu x hx
    ·rw[List.mem_singleton.1 hx]
     intro g
     have g:Op.bytesLess t.f0 (l.getD i default).f0=true:=g
     rw[a2] at g;cases g
   ·obtain rfl:i=l.length:=by omega
    have e1:l.take l.length=l:=List.take_length
    rw[e1] at hu hr
    obtain rfl:n=l.length:=F4.trans (by rw[e1])
    have e2:fg dW t l=l++[t]:=by
     have:=x9 (nm:=dW) (t:=t) (a:=l) (b:=[]) hu
     rwa [List.append_nil] at this
    rw[e2] at hk
    exact Ce (by rfl) (hr.push t) hk
  ·have F4:=hr.1
   have Xr:(fg dW t (l.take i)).length=(l.take i).length+1:=(kr dW t _).length_eq
   have Da:(l.take i).length=i:=by rw[List.length_take];omega
   rw[ahT]
   refine⟨rfl,aq (fun a1=>⟨⟨by omega,by omega⟩,⟨rfl,by omega⟩,⟨rfl,rfl⟩,?_⟩) fun a1=>?_⟩
   ·rw[cA,i64_in ((i:Int)+1) (by omega)]
    have e1:=take_one (l:=l) (i:=i) (by omega)
    refine⟨⟨i+1,by omega,.inr ⟨n+1,_,by omega,.inr ⟨?_,(hr.push _).cg (by rw[e1,Cd hu]),rfl⟩⟩⟩,pY (by omega)⟩
    obtain⟨x,hx,g⟩:=hu
    exact⟨x,by rw[e1];exact List.mem_append_left _ hx,g⟩
   ·obtain rfl:i=l.length:=by omega
    rw[show l.take l.length=l from List.take_length] at hr Xr F4
    obtain rfl:n=l.length+1:=by omega
    exact Ce (by rfl) hr hk
theorem F5:∀ {f:FuncId} {vs:List V} {σ:St} {k:ai},qE f vs σ k→ag Tryz.prog f vs k σ:=fun h=>aD aby F3 h
def qQ (T:List ae) (K:List ae):List ae:=T.foldl (fun o t=>fg dW t o) K
def T8 (l:List ae) (c:an):Nat→List SV→Prop
 | 0,ss=>cK l c=0∧∃i:Nat,i≤l.length∧((eN l (aN c) i=[]∧ss=[.val (af ae.enc 3 l),.val (af ae.enc 3 (ck l c)),.val (af V.str 1 (aN c)),.val .aj,.val (.int .i64 (i:Int))])∨
   ∃n f,0<n∧cz n f (eN l (aN c) i)∧ss=[.val (af ae.enc 3 l),.val (af ae.enc 3 (ck l c)),.val (af V.str 1 (aN c)),.row n f 3,.val (.int .i64 (i:Int))])
 | 1,ss=>cK l c=0∧∃i:Nat,i≤(ck l c).length∧((qQ ((ck l c).take i) (eN l (aN c) l.length)=[]∧ss=[.val (af ae.enc 3 (ck l c)),.val .aj,.val (.int .i64 (i:Int))])∨
   ∃n f,cz n f (qQ ((ck l c).take i) (eN l (aN c) l.length))∧ss=[.val (af ae.enc 3 (ck l c)),.row n f 3,.val (.int .i64 (i:Int))])
 | _,_=>False
noncomputable def m37 (l:List ae) (c:an):Nat→List SV→Nat
 | 0,ss=>10+(l.length-bF ss)
 | _,ss=>(ck l c).length-bF ss
omit [aL] in
theorem T8.clean {l:List ae} {c:an}:∀k ss,T8 l c k ss→∀s∈ss,s.clean
 | 0,_,⟨_,_,_,.inl ⟨_,e⟩⟩=>by subst e;exact ax (bE l) (ax (bE _) (ax (dF _) (ax Go.Ev.Clean.aj (ay bg))))
 | 0,_,⟨_,_,_,.inr ⟨_,_,_,hr,e⟩⟩=>by subst e;exact ax (bE l) (ax (bE _) (ax (dF _) (ax hr.cl (ay bg))))
 | 1,_,⟨_,_,_,.inl ⟨_,e⟩⟩=>by subst e;exact ax (bE _) (ax Go.Ev.Clean.aj (ay bg))
 | 1,_,⟨_,_,_,.inr ⟨_,_,hr,e⟩⟩=>by subst e;exact ax (bE _) (ax hr.cl (ay bg))
 | n+2,_,h=>h.elim
omit [Env] [aL] in
theorem F7 {T K:List ae} {i:Nat} (h:i<T.length):qQ (T.take (i+1)) K=fg dW (T.getD i default) (qQ (T.take i) K):=by
 unfold qQ
 rw[take_one h,List.foldl_append];rfl
omit [Env] [aL] in
theorem Sq (T K:List ae):(qQ T K).length=K.length+T.length:=by
 have:=(nJ dW T K).length_eq
 rw[List.length_append] at this;exact this
set_option maxRecDepth 100000 in
theorem abz (h:W37 vs σ k):ag Tryz.prog 37 vs k σ:=by
 obtain⟨l,c,rfl,hp,hk⟩:=h
 refine ag.aV (ar (bE l) (ar c.aE aG)) (F37.gV (live:=rW) (call:=qE) (fun h=>F5 h) 2 (by kernel_rfl) Nat.lt_wfRel.wf (m37 l c) (T8 l c) T8.clean ?_ ?_)
 ·rw[e37]
  exact⟨l,c,rfl,hp,rfl,aq (fun h0=>wQ hk (x8 h0) h0) fun a=>⟨c,rfl,Decidable.not_not.1 a,0,Nat.zero_le _,.inl ⟨rfl,rfl⟩⟩⟩
 ·intro j hj ss hI
  have hS:=xX c
  have hT:=(vK l c).1
  match j,hI with
  | 0,hI=>
   obtain⟨h0,i,hi,⟨he,rfl⟩ | ⟨n,f,jQ,hr,rfl⟩⟩:=hI
   ·obtain⟨g2,_⟩:=cp (lE h0).1
    rw[ahU]
    refine⟨rfl,aq (fun a1=>⟨⟨by omega,by omega⟩,_,rfl,by omega,rfl,aq (fun a2=>⟨⟨by omega,by omega⟩,⟨rfl,rfl,rfl⟩,?_⟩) fun a2=>?_⟩) fun a1=>?_⟩
    ·rw[cA] at a2⊢
     rw[i64_in ((i:Int)+1) (by omega)]
     exact⟨⟨h0,i+1,by omega,.inr ⟨1,_,by omega,(cz.one _).cg (by rw[pa a2,he];rfl),rfl⟩⟩,by show 10+(l.length-((i:Int)+1).toNat)<10+(l.length-(i:Int).toNat);omega⟩
    ·rw[cA] at a2
     rw[i64_in ((i:Int)+1) (by omega)]
     exact⟨⟨h0,i+1,by omega,.inl ⟨(nv a2).trans he,rfl⟩⟩,by show 10+(l.length-((i:Int)+1).toNat)<10+(l.length-(i:Int).toNat);omega⟩
    ·obtain rfl:i=l.length:=by omega
     exact⟨⟨h0,0,Nat.zero_le _,.inl ⟨he,rfl⟩⟩,by show(ck l c).length-(0:Int).toNat<10+_;omega⟩
   ·obtain⟨g2,_⟩:=cp (lE h0).1
    have jA:=pW l (aN c) i
    have F4:=hr.1
    rw[ahV]
    refine⟨rfl,aq (fun a1=>⟨⟨by omega,by omega⟩,_,rfl,by omega,rfl,aq (fun a2=>⟨⟨by omega,by omega⟩,⟨rfl,by omega⟩,⟨rfl,rfl⟩,?_⟩) fun a2=>⟨⟨rfl,rfl⟩,?_⟩⟩) fun a1=>⟨⟨rfl,rfl⟩,?_⟩⟩
    ·rw[cA] at a2⊢
     rw[i64_in ((i:Int)+1) (by omega)]
     exact⟨⟨h0,i+1,by omega,.inr ⟨n+1,_,by omega,(hr.push _).cg (pa a2).symm,rfl⟩⟩,by show 10+(l.length-((i:Int)+1).toNat)<10+(l.length-(i:Int).toNat);omega⟩
    ·rw[cA] at a2
     rw[i64_in ((i:Int)+1) (by omega)]
     exact⟨⟨h0,i+1,by omega,.inr ⟨n,f,jQ,hr.cg (nv a2).symm,rfl⟩⟩,by show 10+(l.length-((i:Int)+1).toNat)<10+(l.length-(i:Int).toNat);omega⟩
    ·obtain rfl:i=l.length:=by omega
     exact⟨⟨h0,0,Nat.zero_le _,.inr ⟨n,f,hr,rfl⟩⟩,by show(ck l c).length-(0:Int).toNat<10+_;omega⟩
  | 1,hI=>
   obtain⟨h0,i,hi,hI⟩:=hI
   obtain⟨g2,_⟩:=cp (lE h0).1
   have zL:=(qF h0).2.2
   have jA:=pW l (aN c) l.length
   have ow:=Sq ((ck l c).take i) (eN l (aN c) l.length)
   have Xw:((ck l c).take i).length≤i:=List.length_take_le _ _
   rcases hI with ⟨he,rfl⟩ | ⟨n,f,hr,rfl⟩
   ·rw[ahW]
    refine⟨rfl,aq (fun a1=>⟨⟨by omega,by omega⟩,[],(ck l c).getD (i:Int).toNat default,.cons xW (.cons (.clean (ae.aE _)) .nil),Nat.zero_le _,⟨rfl,rfl⟩,?_⟩) fun a1=>⟨rfl,?_⟩⟩
    ·rw[cA,i64_in ((i:Int)+1) (by omega)]
     exact⟨⟨h0,i+1,by omega,.inr ⟨1,_,by rw[F7 (by omega),he];exact⟨rfl,fun _ _=>rfl⟩,rfl⟩⟩,by show(ck l c).length-((i:Int)+1).toNat<(ck l c).length-(i:Int).toNat;omega⟩
    ·obtain rfl:i=(ck l c).length:=by omega
     rw[he,List.take_length] at ow
     have ow:0=_:=ow
     omega
   ·have F4:=hr.1
    rw[ahX]
    refine⟨rfl,aq (fun a1=>⟨⟨by omega,by omega⟩,_,(ck l c).getD (i:Int).toNat default,.cons (fy (p:=false) (by rfl) hr) (.cons (.clean (ae.aE _)) .nil),by omega,⟨rfl,rfl⟩,?_⟩) fun a1=>⟨rfl,aq (fun a2=>?_) fun a2=>?_⟩⟩
    ·rw[cA,i64_in ((i:Int)+1) (by omega)]
     exact⟨⟨h0,i+1,by omega,.inr ⟨_,_,by rw[F7 (by omega)];exact⟨((kr dW _ _).length_eq).symm,fun _ _=>rfl⟩,rfl⟩⟩,by show(ck l c).length-((i:Int)+1).toNat<(ck l c).length-(i:Int).toNat;omega⟩
    all_goals
     obtain rfl:i=(ck l c).length:=by omega
     rw[List.take_length] at hr F4
     have hu:(lF l c).length=n:=((Cb l c).length_eq).symm.trans F4.symm
    ·exact wQ hk ((Bp h0).trans (if_pos (by rw[hu];omega))) (by decide)
    ·have hk:=F2 hk h0 (by rw[hu];omega)
     rw[FY h0] at hk
     exact aK.hR (.cons (fy (p:=false) (by rfl) hr) (.cons (.int _ _) .nil)) hk
  | n+2,hI=>exact hI.elim
theorem Sr:∀ {f:FuncId} {vs:List V} {σ:St} {k:ai},T5 f vs σ k→ag Tryz.prog f vs k σ:=fun h=>aD abz F5 h
end
end Go.Proofs.YtbajncpfmemdgaaGreatDoor
end
section
namespace Go.Ev
open Go
def gx [Env] (us vs:List V):Prop:=∀(ρ:Ren) (xs:List Value),aB ρ us xs→aB ρ vs xs
def F8 (P:Program) (t:TypeId):Option (List TypeId):=
 match P.underlying t with
 | some (.struct fs)=>some (fs.toList.map (·.type))
 | _=>none
def mG (r:TypeId→List V→Prop):List TypeId→List (List V)→Prop
 | [],[]=>True
 | t::ts,p::ps=>r t p∧mG r ts ps
 | _,_=>False
section
variable [Env] {P:Program} {d:Nat} {t:TypeId} {us:List V}
theorem gx.refl (us:List V):gx us us:=fun _ _ h=>h
theorem gx.append {a b c e:List V} (h:gx a b) (k:gx c e):gx (a++c) (b++e):=fun ρ xs hx=>by
 have h1:=hx.take a.length
 have h2:=hx.drop a.length
 rw[List.take_left' rfl] at h1
 rw[List.drop_left' rfl] at h2
 have e:xs=xs.take a.length++xs.drop a.length:=(List.take_append_drop _ _).symm
 rw[e]
 exact(h ρ _ h1).append (k ρ _ h2)
omit [Env] in
theorem mG.of {r:TypeId→List V→Prop}:∀ {fs:List Field} {ps:List (List V)},KN r fs ps→mG r (fs.map (·.type)) ps
 | [],[],_=>trivial
 | _::_,_::_,h=>⟨h.1,mG.of h.2⟩
omit [Env] in
theorem mG.cons {r:TypeId→List V→Prop} {t:TypeId} {ts:List TypeId} {ps:List (List V)} (h:mG r (t::ts) ps):∃p qs,ps=p::qs∧r t p∧mG r ts qs:=by
 cases ps with
 | nil=>exact h.elim
 | cons p qs=>exact⟨p,qs,rfl,h.1,h.2⟩
omit [Env] in
theorem mG.nil {r:TypeId→List V→Prop} {ps:List (List V)} (h:mG r [] ps):ps=[]:=by
 cases ps with
 | nil=>rfl
 | cons p qs=>exact h.elim
omit [Env] in
theorem cF.struct {tys:List TypeId} (ht:F8 P t=some tys) (h:cF P d t us):∃d' ps,us=ps.flatten∧mG (cF P d') tys ps:=by
 cases d with
 | zero=>exact h.elim
 | succ d=>
  unfold F8 at ht
  split at ht
  ·rename_i fs hu
   cases ht
   unfold cF at h
   rw[hu] at h
   obtain⟨ps,h1,h2⟩:=h
   exact⟨d,ps,h1,mG.of h2⟩
  ·cases ht
omit [Env] in
theorem cF.bool (hu:P.underlying t=some .bool) (h:cF P d t us):∃b,us=[.bool b]:=by
 cases d with
 | zero=>exact h.elim
 | succ d=>unfold cF at h;rw[hu] at h;exact h
omit [Env] in
theorem cF.str (hu:P.underlying t=some .string) (h:cF P d t us):∃s,us=[.str s]:=by
 cases d with
 | zero=>exact h.elim
 | succ d=>unfold cF at h;rw[hu] at h;obtain⟨n,h,_⟩:=h;exact⟨n,h⟩
omit [Env] in
theorem zE {α:Type} [Inhabited α] (enc:α→V) (l:List α):cj l.length (fun i=>enc (l.getD i default))=l.map enc:=by
 apply List.ext_getElem?
 intro i
 by_cases h:i<l.length
 ·rw[dt h,List.getElem?_map,List.getElem?_eq_getElem h,List.getD_eq_getElem?_getD,List.getElem?_eq_getElem h];rfl
 ·rw[List.getElem?_eq_none (by rw[aY];omega),List.getElem?_eq_none (by rw[List.length_map];omega)]
end
end Go.Ev
end
section
namespace Go.Proofs.YtbajncpfmemdgaaGreatDoor
open Go Go.Ev
theorem abA {n:Int} (h:(Lit.int .u64 n).wf=true):0≤n∧n<18446744073709551616:=by
 have h:(decide (IntKind.u64.min≤n)&&decide (n≤IntKind.u64.max))=true:=h
 rw[Bool.and_eq_true,decide_eq_true_iff,decide_eq_true_iff] at h
 have h1:IntKind.u64.min=0:=by decide
 have h2:IntKind.u64.max=18446744073709551615:=by decide
 omega
def okD (c:ak):Prop:=zl c.f3
theorem ade {n:Int} (h:(Lit.int .i64 n).wf=true):dL n:=by
 have h:(decide (IntKind.i64.min≤n)&&decide (n≤IntKind.i64.max))=true:=h
 rw[Bool.and_eq_true,decide_eq_true_iff,decide_eq_true_iff] at h
 have h1:IntKind.i64.min= -9223372036854775808:=by decide
 have h2:IntKind.i64.max=9223372036854775807:=by decide
 unfold dL
 omega
section
variable [Env] {P:Program} {d:Nat} {t:TypeId} {us:List V}
omit [Env] in
theorem cF.abC {k:IntKind} (hu:P.underlying t=some (.int k)) (h:cF P d t us):∃n,us=[.int k n]∧(Lit.int k n).wf=true:=by
 cases d with
 | zero=>exact h.elim
 | succ d=>unfold cF at h;rw[hu] at h;exact h
theorem cF.pB {e:TypeId} {α:Type} [Inhabited α] {Pr:α→Prop} {enc:α→V} {esz:Nat} (hu:P.underlying t=some (.slice e)) (dI:P.cellsOf e=esz) (bl:∀a,(enc a).cells.length=esz)
  (H:∀ {d:Nat} {us:List V},cF P d e us→∃a,Pr a∧gx us (enc a).cells) (h:cF P d t us):∃l:List α,(∀x∈l,Pr x)∧gx us [af enc esz l]:=by
 cases d with
 | zero=>exact h.elim
 | succ d=>
  unfold cF at h
  rw[hu] at h
  obtain⟨es,rfl,_,hes⟩:=h
  have key:∀es:List (List V),(∀x∈es,cF P d e x)→∃l:List α,l.length=es.length∧(∀x∈l,Pr x)∧∀(ρ:Ren) (ys:List Value),aB ρ (aw (es.map (sW P e))) ys→aB ρ (aw (l.map enc)) ys:=by
   intro es
   induction es with
   | nil=>exact fun _=>⟨[],rfl,fun x hx=>(by cases hx),fun _ _ h=>h⟩
   | cons x es ih=>
    intro hx
    obtain⟨l,h1,hp,h2⟩:=ih fun y hy=>hx y (List.mem_cons_of_mem _ hy)
    obtain⟨a,hpa,ha⟩:=H (hx x List.mem_cons_self)
    refine⟨a::l,by simp [h1],fun y hy=>?_,?_⟩
    ·rcases List.mem_cons.1 hy with rfl | hy
     ·exact hpa
     ·exact hp y hy
    have hc:=(hx x List.mem_cons_self).cells
    intro ρ ys hy
    rw[List.map_cons,ca] at hy⊢
    rw[hc] at hy
    exact gx.append (fun ρ xs h=>ha ρ xs h) (fun ρ xs h=>h2 ρ xs h) ρ ys hy
  obtain⟨l,h1,hp,h2⟩:=key es hes
  refine⟨l,hp,fun ρ xs hx=>?_⟩
  cases hx with
  | cons hx hl=>
   cases hl
   refine .cons (.arr (fun h=>by cases h) (G4 (ρ':=ρ) (fun _ _ _ h=>h) (dI▸hx) (fun ys hy=>?_) ?_ ?_ fun h=>by cases h)) .nil
   ·rw[zE];exact h2 ρ ys hy
   ·rw[zE]
    intro v hv
    obtain⟨a,_,rfl⟩:=List.mem_map.1 hv
    exact bl a
   ·rw[aY,List.length_map,h1]
end
section
variable [Env]
theorem X9 {d:Nat} {us:List V} (h:cF Tryz.prog d 9 us):∃a:(List UInt8),True∧gx us [.str (a)]:=by
 obtain⟨n,rfl⟩:=h.str (by kernel_rfl)
 exact⟨n,trivial,gx.refl _⟩
theorem X3 {d:Nat} {us:List V} (h:cF Tryz.prog d 3 us):∃a:Int,dL a∧gx us [.int .i64 (a)]:=by
 obtain⟨n,rfl,hn⟩:=cF.abC (k:=.i64) (by kernel_rfl) h
 exact⟨n,ade hn,gx.refl _⟩
theorem X4 {d:Nat} {us:List V} (h:cF Tryz.prog d 4 us):∃a:Bool,True∧gx us [.bool a]:=by
 obtain⟨n,rfl⟩:=h.bool (by kernel_rfl)
 exact⟨n,trivial,gx.refl _⟩
theorem X44 {d:Nat} {us:List V} (h:cF Tryz.prog d 44 us):∃a:Int,(0≤a∧a<18446744073709551616)∧gx us [.int .u64 (a)]:=by
 obtain⟨n,rfl,hn⟩:=cF.abC (k:=.u64) (by kernel_rfl) h
 exact⟨n,abA hn,gx.refl _⟩
theorem X46 {d:Nat} {us:List V} (h:cF Tryz.prog d 46 us):∃a:aC,zl a∧gx us a.cells:=by
 obtain⟨d',ps,rfl,ha⟩:=h.struct (tys:=[3,3,44,9]) (by kernel_rfl)
 obtain⟨p0,_,rfl,h0,ha⟩:=ha.cons
 obtain⟨p1,_,rfl,h1,ha⟩:=ha.cons
 obtain⟨p2,_,rfl,h2,ha⟩:=ha.cons
 obtain⟨p3,_,rfl,h3,ha⟩:=ha.cons
 obtain rfl:=ha.nil
 obtain⟨a0,r0,i0⟩:=X3 h0
 obtain⟨a1,r1,i1⟩:=X3 h1
 obtain⟨a2,r2,i2⟩:=X44 h2
 obtain⟨a3,r3,i3⟩:=X9 h3
 exact⟨⟨a0,a1,a2,a3⟩,⟨r2,r1⟩,i0.append (i1.append (i2.append (i3.append (gx.refl []))))⟩
theorem X48 {d:Nat} {us:List V} (h:cF Tryz.prog d 48 us):∃a:ak,okD a∧gx us a.cells:=by
 obtain⟨d',ps,rfl,ha⟩:=h.struct (tys:=[9,3,4,46]) (by kernel_rfl)
 obtain⟨p0,_,rfl,h0,ha⟩:=ha.cons
 obtain⟨p1,_,rfl,h1,ha⟩:=ha.cons
 obtain⟨p2,_,rfl,h2,ha⟩:=ha.cons
 obtain⟨p3,_,rfl,h3,ha⟩:=ha.cons
 obtain rfl:=ha.nil
 obtain⟨a0,r0,i0⟩:=X9 h0
 obtain⟨a1,r1,i1⟩:=X3 h1
 obtain⟨a2,r2,i2⟩:=X4 h2
 obtain⟨a3,r3,i3⟩:=X46 h3
 exact⟨⟨a0,a1,a2,a3⟩,r3,i0.append (i1.append (i2.append (i3.append (gx.refl []))))⟩
theorem X49 {d:Nat} {us:List V} (h:cF Tryz.prog d 49 us):∃a:(List ak),(∀x∈a,okD x)∧gx us [af ak.enc 7 (a)]:=by
 obtain⟨l,h1,h2⟩:=cF.pB (Pr:=fun x=>okD x) (enc:=ak.enc) (esz:=7) (by kernel_rfl) (by kernel_rfl) (fun a=>ak.size a) (fun h=>X48 h) h
 exact⟨l,h1,h2⟩
theorem X51 {d:Nat} {us:List V} (h:cF Tryz.prog d 51 us):∃a:ae,dV a∧gx us a.cells:=by
 obtain⟨d',ps,rfl,ha⟩:=h.struct (tys:=[9,3,49]) (by kernel_rfl)
 obtain⟨p0,_,rfl,h0,ha⟩:=ha.cons
 obtain⟨p1,_,rfl,h1,ha⟩:=ha.cons
 obtain⟨p2,_,rfl,h2,ha⟩:=ha.cons
 obtain rfl:=ha.nil
 obtain⟨a0,r0,i0⟩:=X9 h0
 obtain⟨a1,r1,i1⟩:=X3 h1
 obtain⟨a2,r2,i2⟩:=X49 h2
 exact⟨⟨a0,a1,a2⟩,r2,i0.append (i1.append (i2.append (gx.refl [])))⟩
theorem X42 {d:Nat} {us:List V} (h:cF Tryz.prog d 42 us):∃a:(List ae),(∀x∈a,dV x)∧gx us [af ae.enc 3 (a)]:=by
 obtain⟨l,h1,h2⟩:=cF.pB (Pr:=fun x=>dV x) (enc:=ae.enc) (esz:=3) (by kernel_rfl) (by kernel_rfl) (fun a=>ae.size a) (fun h=>X51 h) h
 exact⟨l,h1,h2⟩
theorem X43 {d:Nat} {us:List V} (h:cF Tryz.prog d 43 us):∃a:(List (List UInt8)),True∧gx us [af V.str 1 (a)]:=by
 obtain⟨l,h1,h2⟩:=cF.pB (Pr:=fun _=>True) (enc:=V.str) (esz:=1) (by kernel_rfl) (by kernel_rfl) (fun a=>rfl) (fun h=>X9 h) h
 exact⟨l,trivial,h2⟩
theorem X53 {d:Nat} {us:List V} (h:cF Tryz.prog d 53 us):∃a:an,fx a∧gx us a.cells:=by
 obtain⟨d',ps,rfl,ha⟩:=h.struct (tys:=[3,9,9,9,9,9,3,43,48,51]) (by kernel_rfl)
 obtain⟨p0,_,rfl,h0,ha⟩:=ha.cons
 obtain⟨p1,_,rfl,h1,ha⟩:=ha.cons
 obtain⟨p2,_,rfl,h2,ha⟩:=ha.cons
 obtain⟨p3,_,rfl,h3,ha⟩:=ha.cons
 obtain⟨p4,_,rfl,h4,ha⟩:=ha.cons
 obtain⟨p5,_,rfl,h5,ha⟩:=ha.cons
 obtain⟨p6,_,rfl,h6,ha⟩:=ha.cons
 obtain⟨p7,_,rfl,h7,ha⟩:=ha.cons
 obtain⟨p8,_,rfl,h8,ha⟩:=ha.cons
 obtain⟨p9,_,rfl,h9,ha⟩:=ha.cons
 obtain rfl:=ha.nil
 obtain⟨a0,r0,i0⟩:=X3 h0
 obtain⟨a1,r1,i1⟩:=X9 h1
 obtain⟨a2,r2,i2⟩:=X9 h2
 obtain⟨a3,r3,i3⟩:=X9 h3
 obtain⟨a4,r4,i4⟩:=X9 h4
 obtain⟨a5,r5,i5⟩:=X9 h5
 obtain⟨a6,r6,i6⟩:=X3 h6
 obtain⟨a7,r7,i7⟩:=X43 h7
 obtain⟨a8,r8,i8⟩:=X48 h8
 obtain⟨a9,r9,i9⟩:=X51 h9
 exact⟨⟨a0,a1,a2,a3,a4,a5,a6,a7,a8,a9⟩,⟨r8,r9⟩,i0.append (i1.append (i2.append (i3.append (i4.append (i5.append (i6.append (i7.append (i8.append (i9.append (gx.refl []))))))))))⟩
end
end Go.Proofs.YtbajncpfmemdgaaGreatDoor
end
section
namespace Go.Proofs.YtbajncpfmemdgaaGreatDoor
open Go Go.Ev
def JZ:Nat×Nat×Value:=(0,0,.iface 292 (.agg #[.pointer (some ⟨3,179,none⟩)]))
theorem F9 [Env] {P:Program} {f:FuncId} {vs:List V} {xs:List Value} {w:World} (hl:∀q∈Env.laid,w.cell? ⟨q.1,q.2.1,none⟩=some q.2.2) (hv:aB (iz w) vs xs) (h:ag P f vs (fun u _=>u=.bool true) Go.Ev.start):Calls P f ⟨xs⟩ w fun e w'=>e=.returned (.bool true)∧RowKit.Below w.heap.size w w':=by
 obtain⟨_,hc⟩:=dA.at h.h (iz w) w xs (yZ w hl) hv
 refine callsIn_wide.1 (hc.mono fun e w' hp=>?_)
 obtain⟨v',σ',ρ',x',h1,rfl,h2,h3⟩:=hp
 have h1:v'=.bool true:=h1
 subst h1
 cases h2
 refine⟨rfl,h3.os,h3.tape,h3.output,h3.size,fun k hk=>h3.aV k hk ?_⟩
 rintro⟨b,k,l,hb,_⟩
 rw[eJ] at hb
 cases hb
theorem Wn:kc Tryz.prog 12 42=true:=by kernel_rfl
theorem Wo:kc Tryz.prog 12 53=true:=by kernel_rfl
theorem OL [Env] {P:Program} {t:TypeId} {k:Nat} {A:List V→Prop} (hp:kc P k t=true) (hX:∀ {us:List V},cF P k t us→∃vs,A vs∧gx us vs)
  {H:Type} {enc:TypeId×Value→H} {W:World} {cs:List Value} {d:DataW H} {p:List MemPlace} (h:DataW.Trod enc P W 0 (fun _=>true) true t (.agg ⟨cs⟩) d p):∃vs,A vs∧au (iz W) (.agg vs) (.agg ⟨cs⟩):=by
 obtain⟨fuel,h⟩:=h
 obtain⟨us,h1,h2⟩:=wq k hp h
 obtain⟨vs,h3,h4⟩:=hX h2
 exact⟨vs,h3,.agg (h4 _ _ h1)⟩
theorem Cf [Env] {P:Program} {t:TypeId} {k:Nat} {A:V→Prop} (hp:kc P k t=true) (hX:∀ {us:List V},cF P k t us→∃u,A u∧gx us [u])
  {H:Type} {enc:TypeId×Value→H} {W:World} {v:Value} {d:DataW H} {p:List MemPlace} (hv:v.oneCell'=true) (h:DataW.Trod enc P W 0 (fun _=>true) true t v d p):∃u,A u∧au (iz W) u v:=by
 obtain⟨fuel,h⟩:=h
 obtain⟨us,h1,h2⟩:=wq k hp h
 have hc:v.cells.toList=[v]:=by cases v<;>first | rfl | cases hv
 rw[hc] at h1
 obtain⟨u,h3,h4⟩:=hX h2
 cases h4 _ _ h1 with
 | cons h5 h6=>exact⟨u,h3,h5⟩
theorem ahY [Env] {k:Nat} {us:List V} (h:cF Tryz.prog k 42 us):∃u,(∃l:List ae,(∀t∈l,dV t)∧u=af ae.enc 3 l)∧gx us [u]:=by
 obtain⟨l,h1,h2⟩:=X42 h
 exact⟨_,⟨l,h1,rfl⟩,h2⟩
theorem ahZ [Env] {k:Nat} {us:List V} (h:cF Tryz.prog k 53 us):∃vs,(∃c:an,fx c∧vs=c.cells)∧gx us vs:=by
 obtain⟨a,h1,h2⟩:=X53 h
 exact⟨_,⟨a,h1,rfl⟩,h2⟩
end Go.Proofs.YtbajncpfmemdgaaGreatDoor
end
section
namespace Go.Proofs.YtbajncpfmemdgaaGreatDoor
open Go Go.Ev Go.IntWalk
theorem F6:bc Tryz.prog 6 Tryz.f6:=.of (by kernel_rfl) (by kernel_rfl)
theorem OM (l:List ae) (c:an):(lG l c).length≤1000∧∀t∈lG l c,Mr t:=by
 by_cases h:nu l c=0
 ·have e:lG l c=FO l c:=if_pos h
  rw[e]
  have h0:cK l c=0:=Classical.byContradiction fun g=>g (by rw[x8 g] at h;exact h)
  obtain⟨g1,g2,_⟩:=zD.1 (lE h0).1
  obtain⟨t1,t2⟩:=vK l c
  have hp:=Cb l c
  refine⟨?_,fun t ht=>?_⟩
  ·have h1:=hp.length_eq
   have h2:=pW l (aN c) l.length
   unfold lF at h1
   rw[List.length_append] at h1
   omega
  ·rcases List.mem_append.1 (hp.mem_iff.1 ht) with hm | hm
   ·have:=(kY (g2 t ((FX l _).subset hm))).1
    obtain⟨_,h1,h2,_⟩:=this
    exact⟨by omega,by omega⟩
   ·exact t2 t hm
 ·have e:lG l c=[]:=if_neg h
  rw[e]
  exact⟨Nat.zero_le _,fun t ht=>by cases ht⟩
section
variable [Env] [aL] {vs:List V} {σ:St} {k:ai}
def ZT (n:Nat) (v:V):Prop:=v=.int .i64 0∨(v=.int .i64 1∧n≤20)
omit [aL] in
theorem ZT.ga {n:Nat}:∀v,ZT n v→dK v:=fun v h=>by
 rcases h with rfl | ⟨rfl,_⟩
 ·exact dK.int _ _
 ·exact dK.int _ _
theorem Wp (h:abk vs σ k):ag Tryz.prog 27 vs k σ:=by
 obtain⟨l,rfl,h0,h1⟩:=h
 have hc:Go.Ev.Clean (af ae.enc 3 l):=bE l
 refine ag.aU (A:=ZT l.length) (vn hc) ZT.ga ?_ fun v hv=>by
  rcases hv with rfl | ⟨rfl,h⟩
  ·exact h0
  ·exact h1 h
 by_cases hl:l.length≤20
 ·refine F27.bV (live:=rQ) (call:=vz) (n₀:=0) (fun h=>rR h) rfl 1 (by kernel_rfl) Nat.lt_wfRel.wf (fun _ ss=>30-bF ss) (NY ae.enc 3 l) (qx hc) ?_ ?_
  ·rw[NA]
   exact⟨rfl,aa.mk (fun e=>absurd (of_decide_eq_true e) (by omega)) fun _=>⟨0,by omega,by omega,rfl⟩⟩
  ·intro k hk ss hI
   obtain rfl:k=0:=by omega
   obtain⟨i,h0,h1,rfl⟩:=hI
   rw[r27]
   refine⟨rfl,aa.mk (fun e=>?_) fun _=>.inr ⟨rfl,hl⟩⟩
   have e:=of_decide_eq_true e
   refine⟨⟨h0,e⟩,⟨_,rfl⟩,⟨rfl,.inl rfl⟩,rfl,⟨i+1,by omega,by omega,by rw[i64_in _ (by omega)]⟩,?_⟩
   rw[i64_in _ (by omega),jh,jh]
   show 30-(i+1).toNat<30-i.toNat
   omega
 ·refine F27.bV (live:=rQ) (call:=vz) (n₀:=0) (fun h=>rR h) rfl 1 (by kernel_rfl) Nat.lt_wfRel.wf (fun _ _=>0) (fun _ _=>False) (fun _ _ h=>h.elim) ?_ fun _ _ _ h=>h.elim
  rw[NA]
  exact⟨rfl,aa.mk (fun _=>.inl rfl) fun e=>absurd (of_decide_eq_false e) (by omega)⟩
theorem Ss:∀ {f:FuncId} {vs:List V} {σ:St} {k:ai},My f vs σ k→ag Tryz.prog f vs k σ:=fun h=>aD Wp Sr h
set_option maxRecDepth 100000 in
theorem S6 (l:List ae) (c:an) (s:List UInt8) (hl:∀t∈l,dV t) (hc:fx c):ag Tryz.prog 6 [af ae.enc 3 l,an.enc c,.str s] (fun v _=>v=.bool true) Go.Ev.start:=by
 refine F6.flat (live:=T6) (call:=My) (n₀:=0) (fun h=>Ss h) rfl (by kernel_rfl) ?_
 obtain⟨h1,h2⟩:=OM l c
 have h51:∀t∈l,eX t:=fun t h=>dV.eX (hl t h)
 rw[e6]
 refine⟨l,rfl,⟨rfl,rfl,rfl⟩,fun h20=>⟨rfl,c,rfl,⟨rfl,rfl,rfl⟩,fun h60=>⟨rfl,rfl,aq (fun _=>⟨rfl,rfl⟩) fun _=>⟨l,c,rfl,⟨hc,by omega,hl⟩,l,c,rfl,⟨hc,by omega,hl⟩,lG l c,lG l c,rfl,⟨by omega,fun t ht=>by have:=(h2 t ht).2;omega⟩,fun b hb=>?_⟩⟩⟩⟩
 obtain rfl:b=true:=hb.2 rfl
 exact cB rfl (cB rfl (cB rfl ⟨rfl,aq (fun _=>cB rfl ⟨l,rfl,h51,l,rfl,h51,rfl,aq (fun _=>⟨l,s,rfl,by omega,l,s,rfl,by omega,rfl,aq (fun _=>⟨rfl,rfl⟩) fun h=>absurd rfl h⟩) fun h=>absurd rfl h⟩) fun h=>absurd rfl h⟩))
end
theorem abD:kc Tryz.prog 12 9=true:=by kernel_rfl
theorem ex9 [Env] {k:Nat} {us:List V} (h:cF Tryz.prog k 9 us):∃u,(∃s:List UInt8,u=.str s)∧gx us [u]:=by
 obtain⟨l,_,h2⟩:=X9 h
 exact⟨_,⟨l,rfl⟩,h2⟩
theorem uh {H:Type} {enc:TypeId×Value→H} {W:World} {v0 v2:Value} {c1:List Value} {d0 d1 d2:DataW H} {p0 p1 p2:List MemPlace} (hL:W.cell? ⟨0,0,none⟩=some (.iface 292 (.agg #[.pointer (some ⟨3,179,none⟩)])))
  (h0:v0.oneCell'=true∧DataW.Trod enc Tryz.prog W 0 (fun _=>true) true 42 v0 d0 p0) (h1:DataW.Trod enc Tryz.prog W 0 (fun _=>true) true 53 (.agg ⟨c1⟩) d1 p1) (h2:v2.oneCell'=true∧DataW.Trod enc Tryz.prog W 0 (fun _=>true) true 9 v2 d2 p2):
  Calls Tryz.prog 6 #[v0,.agg ⟨c1⟩,v2] W fun e W'=>e=.returned (.bool true)∧RowKit.Below W.heap.size W W':=by
 letI:Env:=SX [] (fun x hx=>by cases hx) (l:=[JZ])
 letI:aL:=⟨List.mem_singleton.2 rfl⟩
 obtain⟨u0,⟨l,hl,rfl⟩,r0⟩:=Cf (k:=12) (A:=fun u=>∃l:List ae,(∀t∈l,dV t)∧u=af ae.enc 3 l) Wn (ahY (k:=12)) h0.1 h0.2
 obtain⟨v1,⟨c,hc,rfl⟩,r1⟩:=OL (k:=12) (A:=fun vs=>∃c:an,fx c∧vs=c.cells) Wo (ahZ (k:=12)) h1
 obtain⟨u2,⟨s,rfl⟩,r2⟩:=Cf (k:=12) (A:=fun u=>∃s:List UInt8,u=.str s) abD (ex9 (k:=12)) h2.1 h2.2
 refine F9 (fun q hq=>?_) (.cons r0 (.cons r1 (.cons r2 .nil))) (S6 l c s hl hc)
 have hq:q∈[JZ]:=hq
 obtain rfl:=List.mem_singleton.1 hq
 exact hL
end Go.Proofs.YtbajncpfmemdgaaGreatDoor
end
