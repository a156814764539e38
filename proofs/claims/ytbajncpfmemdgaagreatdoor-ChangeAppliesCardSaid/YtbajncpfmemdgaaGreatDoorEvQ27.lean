/- Proved: parts of the way: Ris, BEq27, BEq28, BE1, SrL, BE2, BE3. -/
import Derived.Test.YtbajncpfmemdgaaGreatDoorEvQ26
import Derived.Sort.LotA
import Derived.Laws.Cover1
import Derived.Test.YtbajncpfmemdgaaGreatDoorProg
set_option linter.unusedVariables false
set_option linter.unusedSimpArgs false
section
namespace Go.Proofs.YtbajncpfmemdgaaGreatDoor
open Go Go.Ev
section
variable {α:Type} (nm:α→List UInt8)
def fg (t:α):List α→List α
 | []=>[t]
 | x::r=>if Op.bytesLess (nm t) (nm x)=true then t::x::r else x::fg t r
def iF (l:List α):Prop:=l.Pairwise fun a b=>nm a<nm b
def qD (l:List α):Prop:=l.Pairwise fun a b=>nm a≠nm b
theorem kr (t:α):∀l:List α,(fg nm t l).Perm (t::l)
 | []=>.refl _
 | x::r=>by
  unfold fg
  split
  ·exact .refl _
  ·exact((kr t r).cons x).trans (.swap t x r)
theorem tri {s t:List UInt8} (h:¬s<t) (bN:t≠s):t<s:=by
 rcases Std.lt_trichotomy s t with g | g | g
 ·exact absurd g h
 ·exact absurd g.symm bN
 ·exact g
theorem xp {t:α}:∀ {l:List α},iF nm l→(∀x∈l,nm x≠nm t)→iF nm (fg nm t l)
 | [],_,_=>List.pairwise_singleton _ _
 | x::r,h,hn=>by
  unfold fg
  obtain⟨h1,h2⟩:=List.pairwise_cons.1 h
  rw[bytesLess_eq]
  split
  ·rename_i g
   have g:=of_decide_eq_true g
   refine List.pairwise_cons.2 ⟨fun b hb=>?_,h⟩
   rcases List.mem_cons.1 hb with rfl | hb
   ·exact g
   ·exact List.lt_trans g (h1 b hb)
  ·rename_i g
   have g:¬nm t<nm x:=fun h=>g (decide_eq_true h)
   refine List.pairwise_cons.2 ⟨fun b hb=>?_,xp h2 fun y hy=>hn y (List.mem_cons_of_mem _ hy)⟩
   rcases List.mem_cons.1 ((kr nm t r).mem_iff.1 hb) with rfl | hb
   ·exact tri g (hn x List.mem_cons_self)
   ·exact h1 b hb
theorem B9:∀ {l m:List α},l.Perm m→iF nm l→iF nm m→l=m
 | [],m,h,_,_=>(List.nil_perm.1 h).symm
 | x::l,[],h,_,_=>absurd h.length_eq (by simp)
 | x::l,y::m,h,hl,hm=>by
  obtain⟨l1,l2⟩:=List.pairwise_cons.1 hl
  obtain⟨m1,m2⟩:=List.pairwise_cons.1 hm
  have e:x=y:=by
   rcases List.mem_cons.1 (h.mem_iff.1 List.mem_cons_self) with e | e
   ·exact e
   ·rcases List.mem_cons.1 (h.symm.mem_iff.1 List.mem_cons_self) with e' | e'
    ·exact e'.symm
    ·exact absurd (List.lt_trans (l1 y e') (m1 x e)) (List.lt_irrefl _)
  subst e
  rw[B9 (List.Perm.cons_inv h) l2 m2]
theorem nJ:∀(T K:List α),(T.foldl (fun o t=>fg nm t o) K).Perm (K++T)
 | [],K=>by rw[List.append_nil];exact .refl _
 | t::T,K=>(nJ T (fg nm t K)).trans (((kr nm t K).append_right T).trans List.perm_middle.symm)
theorem ug:∀ {T K:List α},iF nm K→qD nm (K++T)→iF nm (T.foldl (fun o t=>fg nm t o) K)
 | [],K,h,_=>h
 | t::T,K,h,ha=>by
  have JW:qD nm (t::(K++T)):=(List.perm_middle.pairwise_iff fun h=>Ne.symm h).1 ha
  obtain⟨a1,a2⟩:=List.pairwise_cons.1 JW
  show iF nm (T.foldl (fun o t=>fg nm t o) (fg nm t K))
  refine ug (T:=T) (K:=fg nm t K) (xp nm h fun x hx=>Ne.symm (a1 x (List.mem_append_left _ hx))) ?_
  exact(((kr nm t K).append_right T).symm.pairwise_iff fun h=>Ne.symm h).1 JW
variable [Inhabited α]
noncomputable def gF (l:List α):List α:=(fA l.length fun i=>nm (l.getD i default)).toList.map fun i=>l.getD i default
theorem Bk:Sort.SWO (ltOf jO):=by
 have e:ltOf jO=Sort.ltStr:=by
  funext x y
  unfold ltOf jO
  rw[bytesLess_eq]
  by_cases h:x<y
  ·simp [Sort.ltStr,h]
  ·have g:¬(if x=y then(0:Int) else 1)<0:=by split<;>decide
   rw[decide_eq_false h,if_neg Bool.false_ne_true,decide_eq_false g]
   exact(decide_eq_false h).symm
 rw[e];exact Sort.swo_ltStr
theorem Ca (l:List α):(List.range l.length).map (fun i=>l.getD i default)=l:=by
 refine List.ext_getElem (by simp) fun i h1 h2=>?_
 simp [List.getD_eq_getElem?_getD,List.getElem?_eq_getElem h2]
theorem kG (l:List α):(gF nm l).Perm l:=by
 have h:=(rV Bk l.length fun i=>nm (l.getD i default)).2.1.map fun i=>l.getD i default
 rwa [Ca] at h
theorem n9 (l:List α):(gF nm l).length=l.length:=(kG nm l).length_eq
theorem vL (l:List α) {i:Nat} (hi:i<l.length):(gF nm l).getD i default=l.getD (fA l.length fun i=>nm (l.getD i default))[i]! default:=by
 have hs:=(rV Bk l.length fun i=>nm (l.getD i default)).1
 have h2:i<(fA l.length fun i=>nm (l.getD i default)).size:=by omega
 unfold gF
 rw[List.getD_eq_getElem?_getD,List.getElem?_map,getElem!_pos _ i h2,Array.getElem?_toList,Array.getElem?_eq_getElem h2];rfl
theorem FN {l:List α} (h:qD nm l):iF nm (gF nm l):=by
 have ha:qD nm (gF nm l):=((kG nm l).pairwise_iff fun h=>Ne.symm h).2 h
 have h3:=(rV Bk l.length fun i=>nm (l.getD i default)).2.2
 refine List.pairwise_iff_getElem.2 fun i j hi hj mj=>?_
 have hn:=List.pairwise_iff_getElem.1 ha i j hi hj mj
 rw[n9] at hi hj
 have g:=h3 i j mj hj
 rw[bytesLess_eq,pU (wP Bk hj),pU (wP Bk hi),←vL nm l hj,←vL nm l hi] at g
 have g:=of_decide_eq_false g
 rw[List.getD_eq_getElem?_getD,List.getD_eq_getElem?_getD,List.getElem?_eq_getElem (by rw[n9];exact hj),List.getElem?_eq_getElem (by rw[n9];exact hi)] at g
 exact tri g hn
theorem Se {K T:List α} (hK:iF nm K) (ha:qD nm (K++T)):gF nm (K++T)=T.foldl (fun o t=>fg nm t o) K:=
 B9 nm ((kG nm _).trans (nJ nm T K).symm) (FN nm ha) (ug nm hK ha)
end
end Go.Proofs.YtbajncpfmemdgaaGreatDoor
end
section
namespace Go.Proofs.YtbajncpfmemdgaaGreatDoor
open Go Go.Ev
def dW (t:ae):List UInt8:=t.f0
noncomputable def eN (l:List ae) (S:List (List UInt8)) (n:Nat):List ae:=bh (fun i=>decide (gP S (l.getD i default).f0<0)) (fun i=>l.getD i default) n
noncomputable def lF (l:List ae) (c:an):List ae:=eN l (aN c) l.length++ck l c
noncomputable def nu (l:List ae) (c:an):Int:=if cK l c≠0 then cK l c else if 16<(lF l c).length then 2 else 0
noncomputable def FO (l:List ae) (c:an):List ae:=(ck l c).foldl (fun o t=>fg dW t o) (eN l (aN c) l.length)
noncomputable def lG (l:List ae) (c:an):List ae:=if nu l c=0 then FO l c else []
def W77 [Env] (vs:List V) (σ:St) (k:ai):Prop:=
 match vs with
 | [.own b n 3,.func (.func 78) [] []]=>(match σ.heap.get b with
  | some (.row m f 3 _)=>∃q:List ae,(m=q.length∧∀i,i<m→f i=ae.enc (q.getD i default))∧n=m∧(0<q.length∧q.length≤1000)∧k (.tuple []) (σ.set b (.row m (fun i=>ae.enc ((gF dW q).getD i default)) 3 false))
  | _=>False)
 | [.slice b 0 1 1 false 3,.func (.func 78) [] []]=>(match σ.heap.get b with
  | some (.cells 3 [] t _ false)=>∃x:ae,t=ah (ae.cells x) .leaf 0∧k (.tuple []) (σ.set b (.cells 3 [] (ah (ae.cells x) .leaf 0) false false))
  | _=>False)
 | [.slice b 0 2 2 false 3,.func (.func 78) [] []]=>(match σ.heap.get b with
  | some (.cells 6 [] t _ false)=>∃x y:ae,t=ah (ae.cells x++ae.cells y) .leaf 0∧∀u w:ae,gF dW [x,y]=[u,w]→k (.tuple []) (σ.set b (.cells 6 [] (ah (ae.cells u++ae.cells w) .leaf 0) false false))
  | _=>False)
 | _=>False
def T4 [Env]:=kS 77 W77 T2
def aa3 [Env] (vs:List V) (σ:St) (k:ai):Prop:=
 ∃(l:List ae) (c:an),vs=[af ae.enc 3 l,an.enc c]∧(fx c∧c.f7.length≤1000000∧∀t∈l,dV t)∧(cK l c≠0→k (.tuple [af ae.enc 3 [],.int .i64 (cK l c)]) σ)∧(cK l c=0→(∀x:ae,ck l c=[x]→k (.tuple [.br [ae.enc x] 3 false,.int .i64 0]) σ)∧(∀x y:ae,ck l c=[x,y]→k (.tuple [.br [ae.enc x,ae.enc y] 3 false,.int .i64 0]) σ))
def nK [Env]:=kS 30 aa3 T4
def oa:Nat→List Nat:=(fun i=>match i with | 0=>[6,8,9,23,24,25] | _=>[])
theorem e36 [Env] (A:Nat→List SV→Prop) (Q:V→St→Prop) (l:List ae) (c:an):WE Tryz.prog 36 Tryz.f36 nK 0 oa A Q [af ae.enc 3 l,an.enc c] Go.Ev.start=
  ((∃(vM:List ae) (tq:an),[af ae.enc 3 l,.agg (an.cells c)]=[af ae.enc 3 vM,an.enc tq]∧(fx tq∧tq.f7.length≤1000000∧∀t∈vM,dV t)∧(cK vM tq≠0→((.i64:IntKind)=.i64∧aa (decide ((cK vM tq)≠(0:Int))) (Q (.tuple [.aj,.int .i64 (cK vM tq)]) ⟨(St.new Go.Ev.start 0 (.cells 18 [] (ah (an.cells c) .leaf 0) true false)).heap,1⟩) ((∃aa4:an,[.agg (an.cells c)]=[an.enc aa4]∧A 0 [.val (af ae.enc 3 ([])),.val (af V.str 1 ((aN aa4))),.val (.aj),.val (af ae.enc 3 l),.val (.int .i64 (((l.length:Nat):Int))),.val (.int .i64 (0:Int))]))))∧(cK vM tq=0→(∀aa5:ae,ck vM tq=[aa5]→((.i64:IntKind)=.i64∧(∃aa6:an,[.agg (an.cells c)]=[an.enc aa6]∧A 0 [.val (.br [ae.enc aa5] 3 false),.val (af V.str 1 ((aN aa6))),.val (.aj),.val (af ae.enc 3 l),.val (.int .i64 (((l.length:Nat):Int))),.val (.int .i64 (0:Int))])))∧(∀aa7 aa8:ae,ck vM tq=[aa7,aa8]→((.i64:IntKind)=.i64∧(∃aa9:an,[.agg (an.cells c)]=[an.enc aa9]∧A 0 [.val (.br [ae.enc aa7,ae.enc aa8] 3 false),.val (af V.str 1 ((aN aa9))),.val (.aj),.val (af ae.enc 3 l),.val (.int .i64 (((l.length:Nat):Int))),.val (.int .i64 (0:Int))])))))):=by kernel_rfl
theorem ac2 [Env] (A:Nat→List SV→Prop) (Q:V→St→Prop) (s:List (List UInt8)) (l:List ae) (m i:Int) (x:ae):WL Tryz.prog 36 Tryz.f36 nK 0 oa A Q 0 [.val (.br [ae.enc x] 3 false),.val (af V.str 1 s),.val (.aj),.val (af ae.enc 3 l),.val (.int .i64 m),.val (.int .i64 i)]=
  (((.i64:IntKind)=.i64∧aa (decide (i<m)) (((0≤i∧i<((l.length:Nat):Int))∧(∃aba:Nat→List UInt8,(fun i=>V.str (s.getD i default))=(fun i=>V.str (aba i))∧s.length≤1000000∧aa ((!(decide (0≤bT ((l.getD i.toNat default).f0) aba s.length)))) ((∃Ms:List ak,[af ak.enc 7 ((l.getD i.toNat default).f2)]=[af ak.enc 7 Ms]∧(0<Ms.length∧Ms.length≤1000)∧(((1:Nat)=1∧(1:Nat)=1∧1*3=1*3)∧A 0 [.val (.br [ae.enc x] 3 false),.val (af V.str 1 s),.row 1 (fun _=>.agg [.str ((l.getD i.toNat default).f0),.int .i64 ((l.getD i.toNat default).f1),af ak.enc 7 Ms]) 3,.val (af ae.enc 3 l),.val (.int .i64 m),.val (.int .i64 (IntKind.i64.wrap (i+(1:Int))))]))) (A 0 [.val (.br [ae.enc x] 3 false),.val (af V.str 1 s),.val (.aj),.val (af ae.enc 3 l),.val (.int .i64 m),.val (.int .i64 (IntKind.i64.wrap (i+(1:Int))))])))) (((.i64:IntKind)=.i64∧(∃abb:ae,(ah (ae.cells x) .leaf 0:Trie V)=ah (ae.cells abb) .leaf 0∧Q (.tuple [.slice 0 0 (1) (1) false 3,.int .i64 (0:Int)]) ⟨(St.new Go.Ev.start 0 (.cells 3 [] (ah (ae.cells abb) .leaf 0) false false)).heap,1⟩))))):=by kernel_rfl
theorem ac3 [Env] (A:Nat→List SV→Prop) (Q:V→St→Prop) (s:List (List UInt8)) (l:List ae) (m i:Int) (n:Nat) (f:Nat→V) (x:ae):WL Tryz.prog 36 Tryz.f36 nK 0 oa A Q 0 [.val (.br [ae.enc x] 3 false),.val (af V.str 1 s),.row n f 3,.val (af ae.enc 3 l),.val (.int .i64 m),.val (.int .i64 i)]=
  (((.i64:IntKind)=.i64∧aa (decide (i<m)) (((0≤i∧i<((l.length:Nat):Int))∧(∃abc:Nat→List UInt8,(fun i=>V.str (s.getD i default))=(fun i=>V.str (abc i))∧s.length≤1000000∧aa ((!(decide (0≤bT ((l.getD i.toNat default).f0) abc s.length)))) ((∃Mt:List ak,[af ak.enc 7 ((l.getD i.toNat default).f2)]=[af ak.enc 7 Mt]∧(0<Mt.length∧Mt.length≤1000)∧((n=n∧(n+1)*48≤1099511627776)∧(((n+1)=(n+1)∧3=3)∧A 0 [.val (.br [ae.enc x] 3 false),.val (af V.str 1 s),.row (n+1) (cw n f (fun _=>.agg [.str ((l.getD i.toNat default).f0),.int .i64 ((l.getD i.toNat default).f1),af ak.enc 7 Mt])) 3,.val (af ae.enc 3 l),.val (.int .i64 m),.val (.int .i64 (IntKind.i64.wrap (i+(1:Int))))])))) (((n=n∧3=3)∧A 0 [.val (.br [ae.enc x] 3 false),.val (af V.str 1 s),.row n f 3,.val (af ae.enc 3 l),.val (.int .i64 m),.val (.int .i64 (IntKind.i64.wrap (i+(1:Int))))]))))) (((n=n∧(n+1)*48≤1099511627776)∧((.i64:IntKind)=.i64∧aa (decide ((((n+1:Nat):Int))>(16:Int))) (Q (.tuple [.aj,.int .i64 (2:Int)]) ⟨(St.new Go.Ev.start 1 (.row (n+1) (cw n f (jK [ae.enc x])) 3 false)).heap,2⟩) ((∃FP:List ae,((n+1)=FP.length∧∀i,i<(n+1)→((cw n f (jK [ae.enc x])):Nat→V) i=ae.enc (FP.getD i default))∧(n+1)=(n+1)∧(0<FP.length∧FP.length≤1000)∧Q (.tuple [.own 1 (n+1) 3,.int .i64 (0:Int)]) ⟨(St.new Go.Ev.start 1 (.row (n+1) (fun i=>ae.enc (((gF dW FP)).getD i default)) 3 false)).heap,2⟩))))))):=by kernel_rfl
theorem ac4 [Env] (A:Nat→List SV→Prop) (Q:V→St→Prop) (s:List (List UInt8)) (l:List ae) (m i:Int) (x y:ae):WL Tryz.prog 36 Tryz.f36 nK 0 oa A Q 0 [.val (.br [ae.enc x,ae.enc y] 3 false),.val (af V.str 1 s),.val (.aj),.val (af ae.enc 3 l),.val (.int .i64 m),.val (.int .i64 i)]=
  (((.i64:IntKind)=.i64∧aa (decide (i<m)) (((0≤i∧i<((l.length:Nat):Int))∧(∃abd:Nat→List UInt8,(fun i=>V.str (s.getD i default))=(fun i=>V.str (abd i))∧s.length≤1000000∧aa ((!(decide (0≤bT ((l.getD i.toNat default).f0) abd s.length)))) ((∃Mu:List ak,[af ak.enc 7 ((l.getD i.toNat default).f2)]=[af ak.enc 7 Mu]∧(0<Mu.length∧Mu.length≤1000)∧(((1:Nat)=1∧(1:Nat)=1∧1*3=1*3)∧A 0 [.val (.br [ae.enc x,ae.enc y] 3 false),.val (af V.str 1 s),.row 1 (fun _=>.agg [.str ((l.getD i.toNat default).f0),.int .i64 ((l.getD i.toNat default).f1),af ak.enc 7 Mu]) 3,.val (af ae.enc 3 l),.val (.int .i64 m),.val (.int .i64 (IntKind.i64.wrap (i+(1:Int))))]))) (A 0 [.val (.br [ae.enc x,ae.enc y] 3 false),.val (af V.str 1 s),.val (.aj),.val (af ae.enc 3 l),.val (.int .i64 m),.val (.int .i64 (IntKind.i64.wrap (i+(1:Int))))])))) (((.i64:IntKind)=.i64∧(∃abe abf:ae,(ah [.str x.f0,.int .i64 x.f1,af ak.enc 7 x.f2,.str y.f0,.int .i64 y.f1,af ak.enc 7 y.f2] .leaf 0:Trie V)=ah (ae.cells abe++ae.cells abf) .leaf 0∧∀Mv Mw:ae,gF dW [abe,abf]=[Mv,Mw]→Q (.tuple [.slice 0 0 (2) (2) false 3,.int .i64 (0:Int)]) ⟨(St.new Go.Ev.start 0 (.cells 6 [] (ah [.str Mv.f0,.int .i64 Mv.f1,af ak.enc 7 Mv.f2,.str Mw.f0,.int .i64 Mw.f1,af ak.enc 7 Mw.f2] .leaf 0) false false)).heap,1⟩))))):=by kernel_rfl
theorem ac5 [Env] (A:Nat→List SV→Prop) (Q:V→St→Prop) (s:List (List UInt8)) (l:List ae) (m i:Int) (n:Nat) (f:Nat→V) (x y:ae):WL Tryz.prog 36 Tryz.f36 nK 0 oa A Q 0 [.val (.br [ae.enc x,ae.enc y] 3 false),.val (af V.str 1 s),.row n f 3,.val (af ae.enc 3 l),.val (.int .i64 m),.val (.int .i64 i)]=
  (((.i64:IntKind)=.i64∧aa (decide (i<m)) (((0≤i∧i<((l.length:Nat):Int))∧(∃abg:Nat→List UInt8,(fun i=>V.str (s.getD i default))=(fun i=>V.str (abg i))∧s.length≤1000000∧aa ((!(decide (0≤bT ((l.getD i.toNat default).f0) abg s.length)))) ((∃Mx:List ak,[af ak.enc 7 ((l.getD i.toNat default).f2)]=[af ak.enc 7 Mx]∧(0<Mx.length∧Mx.length≤1000)∧((n=n∧(n+1)*48≤1099511627776)∧(((n+1)=(n+1)∧3=3)∧A 0 [.val (.br [ae.enc x,ae.enc y] 3 false),.val (af V.str 1 s),.row (n+1) (cw n f (fun _=>.agg [.str ((l.getD i.toNat default).f0),.int .i64 ((l.getD i.toNat default).f1),af ak.enc 7 Mx])) 3,.val (af ae.enc 3 l),.val (.int .i64 m),.val (.int .i64 (IntKind.i64.wrap (i+(1:Int))))])))) (((n=n∧3=3)∧A 0 [.val (.br [ae.enc x,ae.enc y] 3 false),.val (af V.str 1 s),.row n f 3,.val (af ae.enc 3 l),.val (.int .i64 m),.val (.int .i64 (IntKind.i64.wrap (i+(1:Int))))]))))) (((n=n∧(n+2)*48≤1099511627776)∧((.i64:IntKind)=.i64∧aa (decide ((((n+2:Nat):Int))>(16:Int))) (Q (.tuple [.aj,.int .i64 (2:Int)]) ⟨(St.new Go.Ev.start 1 (.row (n+2) (cw n f (jK [ae.enc x,ae.enc y])) 3 false)).heap,2⟩) ((∃FQ:List ae,((n+2)=FQ.length∧∀i,i<(n+2)→((cw n f (jK [ae.enc x,ae.enc y])):Nat→V) i=ae.enc (FQ.getD i default))∧(n+2)=(n+2)∧(0<FQ.length∧FQ.length≤1000)∧Q (.tuple [.own 1 (n+2) 3,.int .i64 (0:Int)]) ⟨(St.new Go.Ev.start 1 (.row (n+2) (fun i=>ae.enc (((gF dW FQ)).getD i default)) 3 false)).heap,2⟩))))))):=by kernel_rfl
def W36 [Env] (vs:List V) (σ:St) (k:ai):Prop:=
 ∃(l:List ae) (c:an),vs=[af ae.enc 3 l,an.enc c]∧(fx c∧c.f7.length≤1000000∧∀t∈l,dV t)∧k (.tuple [af ae.enc 3 (lG l c),.int .i64 (nu l c)]) σ
def tt [Env]:=kS 36 W36 nK
end Go.Proofs.YtbajncpfmemdgaaGreatDoor
end
section
namespace Go.Proofs.YtbajncpfmemdgaaGreatDoor
open Go Go.Ev
def vN:Nat→List Nat:=(fun i=>match i with | 0=>[0,3,5,6,7] | _=>[])
theorem e80 [Env] (A:Nat→List SV→Prop) (Q:V→St→Prop) (l:List ae) (t:ae):WE Tryz.prog 80 Tryz.f80 tt 0 vN A Q [af ae.enc 3 l,ae.enc t] Go.Ev.start=
  (A 0 [.val (af ae.enc 3 l),.box (ae.cells t),.val (.aj),.val (.bool false),.val (.int .i64 (0:Int))]):=by kernel_rfl
theorem ahR [Env] (A:Nat→List SV→Prop) (Q:V→St→Prop) (l:List ae) (t:ae) (i:Int):WL Tryz.prog 80 Tryz.f80 tt 0 vN A Q 0 [.val (af ae.enc 3 l),.box (ae.cells t),.val (.aj),.val (.bool false),.val (.int .i64 i)]=
  (((.i64:IntKind)=.i64∧aa (decide (i<(((l.length:Nat):Int)))) (((0≤i∧i<((l.length:Nat):Int))∧aa ((Op.bytesLess t.f0 ((l.getD i.toNat default).f0))) (((0≤i∧i<((l.length:Nat):Int))∧(((2:Nat)=2∧6=2*3)∧A 0 [.val (af ae.enc 3 l),.box (ae.cells t),.row 2 (jK [.agg (ae.cells t),.agg (ae.cells (l.getD i.toNat default))]) 3,.val (.bool true),.val (.int .i64 (IntKind.i64.wrap (i+(1:Int))))]))) (((0≤i∧i<((l.length:Nat):Int))∧(((1:Nat)=1∧(1:Nat)=1∧1*3=1*3)∧A 0 [.val (af ae.enc 3 l),.box (ae.cells t),.row 1 (fun _=>.agg (ae.cells (l.getD i.toNat default))) 3,.val (.bool false),.val (.int .i64 (IntKind.i64.wrap (i+(1:Int))))]))))) (Q (.slice 2 0 (1) (1) false 3) ⟨(St.new (St.new (St.new Go.Ev.start 0 (.cells 3 [] (ah (ae.cells t) .leaf 0) false false)) 1 (.cells 3 [] (ah (ae.cells t) .leaf 0) true false)) 2 (.cells 3 [] (ah (ae.cells t) .leaf 0) true false)).heap,3⟩))):=by kernel_rfl
theorem ahS [Env] (A:Nat→List SV→Prop) (Q:V→St→Prop) (l:List ae) (t:ae) (i:Int) (n:Nat) (f:Nat→V):WL Tryz.prog 80 Tryz.f80 tt 0 vN A Q 0 [.val (af ae.enc 3 l),.box (ae.cells t),.row n f 3,.val (.bool false),.val (.int .i64 i)]=
  (((.i64:IntKind)=.i64∧aa (decide (i<(((l.length:Nat):Int)))) (((0≤i∧i<((l.length:Nat):Int))∧aa ((Op.bytesLess t.f0 ((l.getD i.toNat default).f0))) (((n=n∧(n+1)*48≤1099511627776)∧((0≤i∧i<((l.length:Nat):Int))∧(((n+1)=(n+1)∧((n+1)+1)*48≤1099511627776)∧((((n+1)+1)=((n+1)+1)∧3=3)∧A 0 [.val (af ae.enc 3 l),.box (ae.cells t),.row ((n+1)+1) (cw (n+1) (cw n f (fun _=>.agg (ae.cells t))) (fun _=>.agg (ae.cells (l.getD i.toNat default)))) 3,.val (.bool true),.val (.int .i64 (IntKind.i64.wrap (i+(1:Int))))]))))) (((0≤i∧i<((l.length:Nat):Int))∧((n=n∧(n+1)*48≤1099511627776)∧(((n+1)=(n+1)∧3=3)∧A 0 [.val (af ae.enc 3 l),.box (ae.cells t),.row (n+1) (cw n f (fun _=>.agg (ae.cells (l.getD i.toNat default)))) 3,.val (.bool false),.val (.int .i64 (IntKind.i64.wrap (i+(1:Int))))])))))) (((n=n∧(n+1)*48≤1099511627776)∧Q (.own 3 (n+1) 3) ⟨(St.new (St.new (St.new Go.Ev.start 0 (.cells 3 [] (ah (ae.cells t) .leaf 0) false false)) 2 (.cells 3 [] (ah (ae.cells t) .leaf 0) true false)) 3 (.row (n+1) (cw n f (fun _=>.agg (ae.cells t))) 3 false)).heap,4⟩)))):=by kernel_rfl
theorem ahT [Env] (A:Nat→List SV→Prop) (Q:V→St→Prop) (l:List ae) (t:ae) (i:Int) (n:Nat) (f:Nat→V):WL Tryz.prog 80 Tryz.f80 tt 0 vN A Q 0 [.val (af ae.enc 3 l),.box (ae.cells t),.row n f 3,.val (.bool true),.val (.int .i64 i)]=
  (((.i64:IntKind)=.i64∧aa (decide (i<(((l.length:Nat):Int)))) (((0≤i∧i<((l.length:Nat):Int))∧((n=n∧(n+1)*48≤1099511627776)∧(((n+1)=(n+1)∧3=3)∧A 0 [.val (af ae.enc 3 l),.box (ae.cells t),.row (n+1) (cw n f (fun _=>.agg (ae.cells (l.getD i.toNat default)))) 3,.val (.bool true),.val (.int .i64 (IntKind.i64.wrap (i+(1:Int))))])))) (Q (.own 1 n 3) ⟨(St.new (St.new Go.Ev.start 0 (.cells 3 [] (ah (ae.cells t) .leaf 0) false false)) 1 (.row n f 3 false)).heap,2⟩))):=by kernel_rfl
def W80 [Env] (vs:List V) (σ:St) (k:ai):Prop:=
 ∃(l:List ae) (t:ae),bA σ vs [af ae.enc 3 l,ae.enc t]∧l.length≤1000∧k (.own σ.next (l.length+1) 3) ((void σ.next).new σ.next (.row (l.length+1) (fun i=>ae.enc ((fg dW t l).getD i default)) 3 false))
def qE [Env]:=kS 80 W80 tt
def rW:Nat→List Nat:=(fun i=>match i with | 0=>[0,6,8,9,10] | 1=>[6,9,11] | _=>[])
theorem e37 [Env] (A:Nat→List SV→Prop) (Q:V→St→Prop) (l:List ae) (c:an):WE Tryz.prog 37 Tryz.f37 qE 0 rW A Q [af ae.enc 3 l,an.enc c] Go.Ev.start=
  ((∃(FR:List ae) (Bl:an),[af ae.enc 3 l,.agg (an.cells c)]=[af ae.enc 3 FR,an.enc Bl]∧(fx Bl∧Bl.f7.length≤1000000∧∀t∈FR,dV t)∧((.i64:IntKind)=.i64∧aa (decide ((cK FR Bl)≠(0:Int))) (Q (.tuple [.aj,.int .i64 (cK FR Bl)]) ⟨(St.new Go.Ev.start 0 (.cells 18 [] (ah (an.cells c) .leaf 0) true false)).heap,1⟩) ((∃abh:an,[.agg (an.cells c)]=[an.enc abh]∧A 0 [.val (af ae.enc 3 l),.val (af ae.enc 3 ((ck FR Bl))),.val (af V.str 1 ((aN abh))),.val (.aj),.val (.int .i64 (0:Int))]))))):=by kernel_rfl
theorem ahU [Env] (A:Nat→List SV→Prop) (Q:V→St→Prop) (l o:List ae) (s:List (List UInt8)) (i:Int):WL Tryz.prog 37 Tryz.f37 qE 0 rW A Q 0 [.val (af ae.enc 3 l),.val (af ae.enc 3 o),.val (af V.str 1 s),.val (.aj),.val (.int .i64 i)]=
  (((.i64:IntKind)=.i64∧aa (decide (i<(((l.length:Nat):Int)))) (((0≤i∧i<((l.length:Nat):Int))∧(∃q:Nat→List UInt8,(fun i=>V.str (s.getD i default))=(fun i=>V.str (q i))∧s.length≤1000000∧((.i64:IntKind)=.i64∧aa (decide ((bT ((l.getD i.toNat default).f0) q s.length)<(0:Int))) (((0≤i∧i<((l.length:Nat):Int))∧(((1:Nat)=1∧(1:Nat)=1∧1*3=1*3)∧A 0 [.val (af ae.enc 3 l),.val (af ae.enc 3 o),.val (af V.str 1 s),.row 1 (fun _=>.agg (ae.cells (l.getD i.toNat default))) 3,.val (.int .i64 (IntKind.i64.wrap (i+(1:Int))))]))) (A 0 [.val (af ae.enc 3 l),.val (af ae.enc 3 o),.val (af V.str 1 s),.val (.aj),.val (.int .i64 (IntKind.i64.wrap (i+(1:Int))))]))))) (A 1 [.val (af ae.enc 3 o),.val (.aj),.val (.int .i64 (0:Int))]))):=by kernel_rfl
theorem ahV [Env] (A:Nat→List SV→Prop) (Q:V→St→Prop) (l o:List ae) (s:List (List UInt8)) (i:Int) (n:Nat) (f:Nat→V):WL Tryz.prog 37 Tryz.f37 qE 0 rW A Q 0 [.val (af ae.enc 3 l),.val (af ae.enc 3 o),.val (af V.str 1 s),.row n f 3,.val (.int .i64 i)]=
  (((.i64:IntKind)=.i64∧aa (decide (i<(((l.length:Nat):Int)))) (((0≤i∧i<((l.length:Nat):Int))∧(∃q:Nat→List UInt8,(fun i=>V.str (s.getD i default))=(fun i=>V.str (q i))∧s.length≤1000000∧((.i64:IntKind)=.i64∧aa (decide ((bT ((l.getD i.toNat default).f0) q s.length)<(0:Int))) (((0≤i∧i<((l.length:Nat):Int))∧((n=n∧(n+1)*48≤1099511627776)∧(((n+1)=(n+1)∧3=3)∧A 0 [.val (af ae.enc 3 l),.val (af ae.enc 3 o),.val (af V.str 1 s),.row (n+1) (cw n f (fun _=>.agg (ae.cells (l.getD i.toNat default)))) 3,.val (.int .i64 (IntKind.i64.wrap (i+(1:Int))))])))) (((n=n∧3=3)∧A 0 [.val (af ae.enc 3 l),.val (af ae.enc 3 o),.val (af V.str 1 s),.row n f 3,.val (.int .i64 (IntKind.i64.wrap (i+(1:Int))))])))))) (((n=n∧3=3)∧A 1 [.val (af ae.enc 3 o),.row n f 3,.val (.int .i64 (0:Int))])))):=by kernel_rfl
theorem ahW [Env] (A:Nat→List SV→Prop) (Q:V→St→Prop) (o:List ae) (i:Int):WL Tryz.prog 37 Tryz.f37 qE 0 rW A Q 1 [.val (af ae.enc 3 o),.val (.aj),.val (.int .i64 i)]=
  (((.i64:IntKind)=.i64∧aa (decide (i<(((o.length:Nat):Int)))) (((0≤i∧i<((o.length:Nat):Int))∧(∃(Bm:List ae) (abi:ae),bA ⟨Go.Ev.start.heap,0⟩ [.aj,ae.enc (o.getD i.toNat default)] [af ae.enc 3 Bm,ae.enc abi]∧Bm.length≤1000∧(((Bm.length+1)=(Bm.length+1)∧3=3)∧A 1 [.val (af ae.enc 3 o),.row (Bm.length+1) (fun i=>ae.enc (((fg dW abi Bm)).getD i default)) 3,.val (.int .i64 (IntKind.i64.wrap (i+(1:Int))))])))) (((.i64:IntKind)=.i64∧Q (.tuple [.aj,.int .i64 (0:Int)]) ⟨Go.Ev.start.heap,0⟩)))):=by kernel_rfl
theorem ahX [Env] (A:Nat→List SV→Prop) (Q:V→St→Prop) (o:List ae) (i:Int) (n:Nat) (f:Nat→V):WL Tryz.prog 37 Tryz.f37 qE 0 rW A Q 1 [.val (af ae.enc 3 o),.row n f 3,.val (.int .i64 i)]=
  (((.i64:IntKind)=.i64∧aa (decide (i<(((o.length:Nat):Int)))) (((0≤i∧i<((o.length:Nat):Int))∧(∃(Bn:List ae) (abj:ae),bA ⟨(St.new Go.Ev.start 0 (.row n f 3 false)).heap,1⟩ [.own 0 n 3,ae.enc (o.getD i.toNat default)] [af ae.enc 3 Bn,ae.enc abj]∧Bn.length≤1000∧(((Bn.length+1)=(Bn.length+1)∧3=3)∧A 1 [.val (af ae.enc 3 o),.row (Bn.length+1) (fun i=>ae.enc (((fg dW abj Bn)).getD i default)) 3,.val (.int .i64 (IntKind.i64.wrap (i+(1:Int))))])))) (((.i64:IntKind)=.i64∧aa (decide ((((n:Nat):Int))>(16:Int))) (Q (.tuple [.aj,.int .i64 (2:Int)]) ⟨(St.new Go.Ev.start 0 (.row n f 3 false)).heap,1⟩) (Q (.tuple [.own 0 n 3,.int .i64 (0:Int)]) ⟨(St.new Go.Ev.start 0 (.row n f 3 false)).heap,1⟩))))):=by kernel_rfl
def W37 [Env] (vs:List V) (σ:St) (k:ai):Prop:=
 ∃(l:List ae) (c:an),vs=[af ae.enc 3 l,an.enc c]∧(fx c∧c.f7.length≤1000000∧∀t∈l,dV t)∧k (.tuple [af ae.enc 3 (lG l c),.int .i64 (nu l c)]) σ
def T5 [Env]:=kS 37 W37 qE
def abk [Env] (vs:List V) (σ:St) (k:ai):Prop:=
 ∃l:List ae,vs=[af ae.enc 3 l]∧k (.int .i64 0) σ∧(l.length≤20→k (.int .i64 1) σ)
def My [Env]:=kS 27 abk T5
def T6:Nat→List Nat:=(fun _=>[])
theorem e6 [Env] (A:Nat→List SV→Prop) (Q:V→Prop) (l:List ae) (c:an) (s:List UInt8):WE Tryz.prog 6 Tryz.f6 My 0 T6 A (fun v _=>Q v) [af ae.enc 3 l,an.enc c,.str s] Go.Ev.start=
  ((∃abl:List ae,[af ae.enc 3 l]=[af ae.enc 3 abl]∧((.i64:IntKind)=.i64∧(([]:List V)=[]∧Q (.bool true)))∧(abl.length≤20→((.i64:IntKind)=.i64∧(∃abm:an,[.agg (an.cells c)]=[an.enc abm]∧((.i64:IntKind)=.i64∧(([]:List V)=[]∧Q (.bool true)))∧(abm.f7.length≤60→((.i64:IntKind)=.i64∧((.i64:IntKind)=.i64∧aa (decide ((((len s:Nat):Int))>(500:Int))) ((([]:List V)=[]∧Q (.bool true))) ((∃(Mz:List ae) (FT:an),[af ae.enc 3 l,.agg (an.cells c)]=[af ae.enc 3 Mz,an.enc FT]∧(fx FT∧FT.f7.length≤1000000∧∀t∈Mz,dV t)∧(∃(MA:List ae) (FU:an),[af ae.enc 3 l,.agg (an.cells c)]=[af ae.enc 3 MA,an.enc FU]∧(fx FU∧FU.f7.length≤1000000∧∀t∈MA,dV t)∧(∃MB abn:List ae,[af ae.enc 3 ((lG Mz FT)),af ae.enc 3 ((lG MA FU))]=[af ae.enc 3 MB,af ae.enc 3 abn]∧(MB.length≤1000000∧∀t∈MB,t.f2.length≤1000000)∧∀mF:Bool,(mF=true↔MB=abn)→aa (mF==true) (aa (mF==true) (aa (mF==true) (((.i64:IntKind)=.i64∧aa (decide ((nu Mz FT)=(nu MA FU))) (aa mF ((∃Sf:List ae,[af ae.enc 3 l]=[af ae.enc 3 Sf]∧(∀t∈Sf,eX t)∧(∃Sg:List ae,[af ae.enc 3 l]=[af ae.enc 3 Sg]∧(∀t∈Sg,eX t)∧((.i64:IntKind)=.i64∧aa (decide ((cn Sf)=(cn Sg))) ((∃(Sh:List ae) (abo:List UInt8),[af ae.enc 3 l,.str s]=[af ae.enc 3 Sh,.str abo]∧Sh.length≤1000000∧(∃(Si:List ae) (abp:List UInt8),[af ae.enc 3 l,.str s]=[af ae.enc 3 Si,.str abp]∧Si.length≤1000000∧((.i64:IntKind)=.i64∧aa (decide ((aM Sh abo)=(aM Si abp))) ((([]:List V)=[]∧Q (.bool true))) (Q (.bool false)))))) (Q (.bool false)))))) (Q (.bool false))) (aa mF (Q (.bool false)) (Q (.bool false))))) (aa mF False (Q (.bool false)))) (aa (mF==true) False (aa mF False (Q (.bool false))))) (aa (mF==true) (aa (mF==true) False (aa mF False (Q (.bool false)))) (aa (mF==true) False (aa mF False (Q (.bool false))))))))))))))))):=by kernel_rfl
end Go.Proofs.YtbajncpfmemdgaaGreatDoor
end
section
namespace Go.Proofs.YtbajncpfmemdgaaGreatDoor
open Go Go.Ev Go.IntWalk
theorem xq {α:Type} (q:α→Bool) (f:Nat→α):∀n,bh (fun i=>q (f i)) f n=((List.range n).map f).filter q
 | 0=>rfl
 | n+1=>by
  show(if q (f n)=true then bh (fun i=>q (f i)) f n++[f n] else bh (fun i=>q (f i)) f n)=_
  rw[List.range_succ,List.map_append,List.filter_append,xq q f n]
  by_cases h:q (f n)=true
  ·rw[if_pos h];simp [h]
  ·rw[if_neg h];simp [h]
theorem FV (l:List ae) (S:List (List UInt8)):eN l S l.length=l.filter fun t=>decide (gP S t.f0<0):=by
 have:=xq (fun t:ae=>decide (gP S t.f0<0)) (fun i=>l.getD i default) l.length
 rw[Ca] at this
 exact this
theorem OH {l:List ae} {s:List UInt8}:aM l s<0↔∀t∈l,t.f0≠s:=by
 unfold aM
 rcases jJ s (fun i=>(l.getD i default).f0) l.length with ⟨h1,h2⟩ | ⟨i,h1,h2,h3,_⟩
 ·rw[h1]
  refine⟨fun _ t hm=>?_,fun _=>by decide⟩
  obtain⟨i,hi,e⟩:=List.mem_iff_getElem.1 hm
  have:=h2 i hi
  rw[gR hi,e] at this;exact this
 ·rw[h1]
  refine⟨fun h=>by omega,fun h=>absurd ?_ (h l[i] (List.getElem_mem h2))⟩
  rw[←h3,gR h2]
theorem FW {q:Nat→List UInt8} {n:Nat} (h:∀i,i<n→0<i→(Op.bytesLess (q i) (q (i-1))||q i==q (i-1))=false):∀j i,i<j→j<n→q i<q j
 | 0,i,hi,_=>absurd hi (Nat.not_lt_zero i)
 | j+1,i,hi,hj=>by
  have h1:=h (j+1) hj (Nat.succ_pos j)
  rw[Nat.add_sub_cancel,Bool.or_eq_false_iff,bytesLess_eq] at h1
  have h2:q j<q (j+1):=tri (of_decide_eq_false h1.1) fun e=>by
   have:=h1.2;rw[←e] at this;simp at this
  by_cases e:i=j
  ·subst e;exact h2
  ·exact List.lt_trans (FW h j i (by omega) (by omega)) h2
theorem Sj {q:Nat→List UInt8} {n:Nat} (h:∀i j,i<j→j<n→q i<q j):∀i,i<n→0<i→(Op.bytesLess (q i) (q (i-1))||q i==q (i-1))=false:=fun i hi h0=>by
 have h1:=h (i-1) i (by omega) hi
 rw[Bool.or_eq_false_iff,bytesLess_eq]
 refine⟨decide_eq_false fun h2=>List.lt_irrefl _ (List.lt_trans h1 h2),?_⟩
 cases e:q i==q (i-1) with
 | false=>rfl
 | true=>rw[beq_iff_eq.1 e] at h1;exact absurd h1 (List.lt_irrefl _)
theorem zD {l:List ae}:cn l=0↔l.length≤16∧(∀t∈l,bK t=0)∧iF dW l:=by
 constructor
 ·intro h
  obtain⟨h1,h2⟩:=cp h
  refine⟨h1,h2,?_⟩
  have h3:∀j,j<l.length→bK (l.getD j default)=0:=fun j hj=>h2 _ (by rw[gR hj];exact List.getElem_mem hj)
  rw[k0 (by omega) h3] at h
  have h4:wH (nameAt l) l.length=true:=Classical.byContradiction fun g=>by rw[if_neg g] at h;cases h
  have h5:=FW ((lW _ _).1 h4)
  refine List.pairwise_iff_getElem.2 fun i j hi hj mj=>?_
  have:=h5 j i mj hj
  unfold nameAt at this
  rwa [gR hi,gR hj] at this
 ·rintro⟨h1,h2,h3⟩
  rw[k0 (by omega) fun j hj=>h2 _ (by rw[gR hj];exact List.getElem_mem hj),if_pos]
  refine(lW _ _).2 (Sj fun i j mj hj=>?_)
  unfold nameAt
  rw[gR hj,gR (by omega:i<l.length)]
  exact List.pairwise_iff_getElem.1 h3 i j (by omega) hj mj
theorem iF.apart {α:Type} {nm:α→List UInt8} {l:List α} (h:iF nm l):qD nm l:=List.Pairwise.imp (fun h e=>by rw[e] at h;exact List.lt_irrefl _ h) h
theorem Sk {c:an} {t u:ae} (hr:¬(c.f0<1∨6<c.f0)) (h:kE c t u=0):qD dW (kT c t):=by
 rcases(show c.f0=1∨c.f0=2∨c.f0=3∨c.f0=4∨c.f0=5∨c.f0=6 by omega) with h0 | h0 | h0 | h0 | h0 | h0
 ·rw[A8 h0];exact List.pairwise_singleton _ _
 ·rw[L7 h0];exact List.pairwise_singleton _ _
 ·rw[L8 h0];exact List.pairwise_singleton _ _
 ·rw[Ma h0];exact List.pairwise_singleton _ _
 ·rw[Mb h0];rw[Fv h0] at h
  refine List.pairwise_cons.2 ⟨fun b hb=>?_,List.pairwise_singleton _ _⟩
  rw[List.mem_singleton.1 hb]
  intro e
  have e:c.f3=c.f4:=e
  unfold ki at h
  by_cases g1:aF c.f3≠0
  ·rw[if_pos g1] at h;exact g1 h
  ·by_cases g2:aF c.f4≠0
   ·rw[if_neg g1,if_pos g2] at h;exact g2 h
   ·rw[if_neg g1,if_neg g2,if_pos e] at h;cases h
 ·rw[Mc h0];exact List.pairwise_singleton _ _
theorem Bo {l:List ae} {c:an} (h:cK l c=0):ck l c=kT c (aA l c.f1):=if_pos h
theorem FX (l:List ae) (S:List (List UInt8)):(eN l S l.length).Sublist l:=by rw[FV];exact List.filter_sublist
theorem qF {l:List ae} {c:an} (h:cK l c=0):iF dW (eN l (aN c) l.length)∧qD dW (lF l c)∧0<(ck l c).length:=by
 obtain⟨h1,h2,h3,h4⟩:=lE h
 obtain⟨g1,g2,g3⟩:=zD.1 h1
 have hk:iF dW (eN l (aN c) l.length):=List.Pairwise.sublist (FX l _) g3
 refine⟨hk,?_,?_⟩
 ·refine List.pairwise_append.2 ⟨hk.apart,by rw[Bo h];exact Sk h2 h4,fun a ha b hb e=>?_⟩
  have e:a.f0=b.f0:=e
  rw[FV,List.mem_filter] at ha
  obtain⟨ha1,JW⟩:=ha
  have JW:=of_decide_eq_true JW
  rw[iQ h1 h2 h3 h4] at h
  rw[Bo (by rw[iQ h1 h2 h3 h4];exact h)] at hb
  obtain⟨i,hi,e2⟩:=List.mem_iff_getElem.1 hb
  have:=(cu (fun i=>if 0≤aM l ((kT c (aA l c.f1)).getD i default).f0∧gP (aN c) ((kT c (aA l c.f1)).getD i default).f0<0 then(12:Int) else 0) _).1 h i hi
  rw[gR hi,e2,←e] at this
  by_cases g:aM l a.f0<0
  ·exact OH.1 g a ha1 rfl
  ·rw[if_pos ⟨by omega,JW⟩] at this;cases this
 ·rw[Bo h]
  unfold kT vC
  repeat' split
  all_goals exact Nat.zero_lt_succ _
theorem FY {l:List ae} {c:an} (h:cK l c=0):gF dW (lF l c)=FO l c:=Se dW (qF h).1 (qF h).2.1
theorem Cb (l:List ae) (c:an):(FO l c).Perm (lF l c):=nJ dW _ _
end Go.Proofs.YtbajncpfmemdgaaGreatDoor
end
section
namespace Go.Proofs.YtbajncpfmemdgaaGreatDoor
open Go.Shelf
def pV:Go.Shelf.Ren:=⟨fun | 6=>77 | 15=>131 | 14=>130 | 28=>173 | 29=>174 | 20=>165 | 21=>166 | 22=>167 | 23=>168 | 24=>169 | 25=>170 | 26=>171 | 27=>172 | 46=>213 | 47=>214 | 48=>215 | 49=>216 | 50=>217 | 57=>246 | n=>n,fun | 22=>42 | 24=>51 | 25=>113 | 3=>3 | 39=>175 | 0=>0 | 53=>213 | 55=>44 | 4=>4 | 46=>207 | 45=>206 | 50=>131 | 5=>5 | 9=>9 | 66=>252 | 70=>256 | 76=>289 | 77=>36 | n=>n,fun | n=>n⟩
theorem Sl:Go.Proofs.SlLaysF0.n6 Tryz.prog pV:={
 mixed:=by kernel_rfl
 f6:=⟨Tryz.f77.name,by decide,Tryz.func77.trans (congrArg some (by kernel_rfl))⟩
 f14:=⟨Tryz.f130.name,by decide,Tryz.func130.trans (congrArg some (by kernel_rfl))⟩
 f15:=Tryz.func131.trans (congrArg some (by kernel_rfl))
 f20:=⟨Tryz.f165.name,by decide,Tryz.func165.trans (congrArg some (by kernel_rfl))⟩
 f21:=⟨Tryz.f166.name,by decide,Tryz.func166.trans (congrArg some (by kernel_rfl))⟩
 f22:=⟨Tryz.f167.name,by decide,Tryz.func167.trans (congrArg some (by kernel_rfl))⟩
 f23:=⟨Tryz.f168.name,by decide,Tryz.func168.trans (congrArg some (by kernel_rfl))⟩
 f24:=⟨Tryz.f169.name,by decide,Tryz.func169.trans (congrArg some (by kernel_rfl))⟩
 f25:=⟨Tryz.f170.name,by decide,Tryz.func170.trans (congrArg some (by kernel_rfl))⟩
 f26:=⟨Tryz.f171.name,by decide,Tryz.func171.trans (congrArg some (by kernel_rfl))⟩
 f27:=⟨Tryz.f172.name,by decide,Tryz.func172.trans (congrArg some (by kernel_rfl))⟩
 f28:=Tryz.func173.trans (congrArg some (by kernel_rfl))
 f29:=Tryz.func174.trans (congrArg some (by kernel_rfl))
 f46:=⟨Tryz.f213.name,by decide,Tryz.func213.trans (congrArg some (by kernel_rfl))⟩
 f47:=Tryz.func214.trans (congrArg some (by kernel_rfl))
 f48:=Tryz.func215.trans (congrArg some (by kernel_rfl))
 f49:=⟨Tryz.f216.name,by decide,Tryz.func216.trans (congrArg some (by kernel_rfl))⟩
 f50:=⟨Tryz.f217.name,by decide,Tryz.func217.trans (congrArg some (by kernel_rfl))⟩
 f57:=⟨Tryz.f246.name,by decide,Tryz.func246.trans (congrArg some (by kernel_rfl))⟩
 t0:=Tryz.underlying0
 a0:=Tryz.isAgg0
 z0:=Tryz.sizeOf0
 v0:=Tryz.zeroValue0
 t3:=Tryz.underlying3
 a3:=Tryz.isAgg3
 z3:=Tryz.sizeOf3
 v3:=Tryz.zeroValue3
 t4:=Tryz.underlying4
 a4:=Tryz.isAgg4
 z4:=Tryz.sizeOf4
 v4:=Tryz.zeroValue4
 t5:=Tryz.underlying5
 a5:=Tryz.isAgg5
 z5:=Tryz.sizeOf5
 v5:=Tryz.zeroValue5
 t9:=Tryz.underlying9
 a9:=Tryz.isAgg9
 z9:=Tryz.sizeOf9
 v9:=Tryz.zeroValue9
 t22:=Tryz.underlying42
 a22:=Tryz.isAgg42
 z22:=Tryz.sizeOf42
 v22:=Tryz.zeroValue42
 t25:=Tryz.underlying113
 a25:=Tryz.isAgg113
 z25:=Tryz.sizeOf113
 v25:=Tryz.zeroValue113
 t39:=Tryz.underlying175
 a39:=Tryz.isAgg175
 z39:=Tryz.sizeOf175
 v39:=Tryz.zeroValue175
 t45:=Tryz.underlying206
 a45:=Tryz.isAgg206
 z45:=Tryz.sizeOf206
 v45:=Tryz.zeroValue206
 t46:=Tryz.underlying207
 a46:=Tryz.isAgg207
 z46:=Tryz.sizeOf207
 v46:=Tryz.zeroValue207
 t50:=Tryz.underlying131
 a50:=Tryz.isAgg131
 z50:=Tryz.sizeOf131
 v50:=Tryz.zeroValue131
 t53:=Tryz.underlying213
 a53:=Tryz.isAgg213
 z53:=Tryz.sizeOf213
 v53:=Tryz.zeroValue213
 t55:=Tryz.underlying44
 a55:=Tryz.isAgg44
 z55:=Tryz.sizeOf44
 v55:=Tryz.zeroValue44
 t66:=Tryz.underlying252
 a66:=Tryz.isAgg252
 z66:=Tryz.sizeOf252
 v66:=Tryz.zeroValue252
 t70:=Tryz.underlying256
 a70:=Tryz.isAgg256
 z70:=Tryz.sizeOf256
 v70:=Tryz.zeroValue256
 t76:=Tryz.underlying289
 a76:=Tryz.isAgg289
 z76:=Tryz.sizeOf289
 v76:=Tryz.zeroValue289
 t77:=Tryz.underlying36
 a77:=Tryz.isAgg36
 z77:=Tryz.sizeOf36
 v77:=Tryz.zeroValue36}
open Go Go.RowKit Go.Lib
set_option maxHeartbeats 1000000 in
theorem abq (x:ByteArray) (w:World):Calls Tryz.prog 132 #[.string x] w fun e w'=>e=.returned (.bool false)∧w'=w:=by
 go_enter Tryz.func132,Tryz.ntmps132
 go_wp2
 go_ret
 exact⟨by simp,rfl⟩
set_option maxHeartbeats 1000000 in
theorem ac6 (s t:List UInt8) (w:World):Calls Tryz.prog 79 #[.string ⟨⟨s⟩⟩,.string ⟨⟨t⟩⟩] w fun e w'=>e=.returned (.int .i64 (Go.Ev.jO s t))∧w'=w:=by
 go_enter Tryz.func79,Tryz.ntmps79
 go_wp2_with (go_at_call 132;refine(abq _ _).mono ?_;rintro e w' ⟨rfl,hw⟩;rw[hw])
 all_goals (go_ret;refine⟨?_,rfl⟩;unfold Go.Ev.jO)
 all_goals simp_all
set_option maxHeartbeats 1000000 in
theorem ac7 (s t:List UInt8) (a b c d:Value) (W:World) (_ha:a.oneCell'=true) (_hb:b.oneCell'=true) (_hc:c.oneCell'=true) (_hd:d.oneCell'=true):Calls Tryz.prog 78 #[.agg #[.string ⟨⟨s⟩⟩,a,b],.agg #[.string ⟨⟨t⟩⟩,c,d]] W fun e w'=>e=.returned (.int .i64 (Go.Ev.jO s t))∧∃q os,w'=Sort.grow (W.drewN q) os:=by
 have abr:=ac6 s t
 generalize Go.Ev.jO s t=r at abr⊢
 go_enter Tryz.func78,Tryz.ntmps78
 go_wp2_with (go_at_call 79;refine(abr _).mono ?_;rintro e w' ⟨rfl,rfl⟩)
 go_ret
 exact⟨rfl,0,_,by rw[Sort.alloc_eq_grow,Sort.alloc_eq_grow,Sort.grow_grow];rfl⟩
theorem ac8:∀w,(isAgg (pV.t 24)).run Tryz.prog w=.ok true w:=fun w=>Tryz.isAgg51 w
theorem ac9:∀w,(Go.sizeOf (pV.t 24)).run Tryz.prog w=.ok 3 w:=fun w=>Tryz.sizeOf51 w
section
variable [Go.Ev.Env] {σ:Go.Ev.St}
theorem abt {b n:Nat} {f:Nat→Go.Ev.V} {qR:Go.Ev.V} {q q':Go.Ev.b9} {nm:Nat→List UInt8} (hb:σ.heap.get b=some q) (OG:∀(ρ:Go.Ev.Ren) (x:Value),Go.Ev.au ρ qR x→Go.Ev.au ρ (.own b n 3) x)
  (hq:∀(ρ:Go.Ev.Ren) (w:World) (l:Go.Ev.Loc),Go.Ev.cI ρ w l q→Go.Ev.cI ρ w l (.row n f 3 false)) (j8:∀(ρ:Go.Ev.Ren) (w:World) (l:Go.Ev.Loc),Go.Ev.cI ρ w l (.row n (fun i=>f (Go.Ev.fA n nm)[i]!) 3 false)→Go.Ev.cI ρ w l q')
  (hn:0<n) (oD:n<4611686018427387904) (hf:∀i,i<n→∃u v,(f i).cells=[.str (nm i),u,v]∧u.scalar=true∧v.scalar=true):
  Go.Ev.ag Tryz.prog 77 [qR,.func (.func 78) [] []] (fun v τ=>v=.tuple []∧τ=σ.set b q') σ:=
 Go.Ev.ag.ac1 hb OG hq j8 hn oD hf Bk (enters_of Tryz.func77 (by kernel_rfl) rfl) ac7 fun enc cf di off cap d w h3 h1 hO hC hH hblk bl=>
  AnyQ.slices_SortFunc_eq Sl 3 ac8 ac9 enc h3 h1 cf hO 78 #[] di off cap d w (enters_of Tryz.func78 (by kernel_rfl) rfl) hC hH hblk bl
end
end Go.Proofs.YtbajncpfmemdgaaGreatDoor
end
section
namespace Go.Proofs.YtbajncpfmemdgaaGreatDoor
open Go Go.Ev Go.IntWalk
theorem F36:bc Tryz.prog 36 Tryz.f36:=.of (by kernel_rfl) (by kernel_rfl)
noncomputable def MC (es:List ae):List V:=aw (es.map ae.enc)
theorem Sm (l:List ae):∀v∈l.map ae.enc,v.cells.length=3:=fun v hv=>by
 obtain⟨x,_,rfl⟩:=List.mem_map.1 hv;rfl
theorem FZ {l:List ae} {i:Nat} (hi:i<l.length) {k:Nat} (hk:k<3):(MC l)[i*3+k]? =(ae.cells (l.getD i default))[k]? :=by
 unfold MC
 rw[gp (Sm l) (i:=i) (u:=ae.enc (l.getD i default)) (by rw[List.getElem?_map,List.getD_eq_getElem?_getD,List.getElem?_eq_getElem hi];rfl) hk];rfl
theorem MD {N:Nat} {es:List V} {i:Nat} {v:V} (h:cellOf N [] (ah es .leaf 0) i=some v):i<N∧es[i]? =some v:=by
 have hi:=uM h
 refine⟨hi,?_⟩
 unfold cellOf at h
 rw[show Nat.blt i N=true by rw[Nat.blt_eq];exact hi] at h
 dsimp only at h
 rw[ky] at h
 by_cases e:0≤i∧i<0+es.length
 ·rw[if_pos e,Nat.sub_zero,List.getElem?_eq_getElem (by omega)] at h
  rw[List.getElem?_eq_getElem (by omega)];exact h
 ·rw[if_neg e,Trie.eU] at h
  exact nomatch (show(none:Option V)=some v from h)
section
variable [Env] {ρ:Go.Ev.Ren} {w:World} {l:Go.Ev.Loc}
theorem OI {n esz:Nat} {f g:Nat→V} {p:Bool} (h:cI ρ w l (.row n f esz p)) (e:∀i,i<n→f i=g i):cI ρ w l (.row n g esz false):=by
 cases h with
 | row hs hn hu hv hf hp=>exact .row hs hn (fun i hi=>by rw[←e i hi];exact hu i hi) (fun i hi=>by rw[←e i hi];exact hv i hi) hf fun h=>by cases h
theorem vO {es:List ae} {p:Bool} (h:cI ρ w l (.cells (es.length*3) [] (ah (MC es) .leaf 0) p false)):cI ρ w l (.row es.length (fun i=>ae.enc (es.getD i default)) 3 false):=by
 cases h with
 | cells hs hn hv hf hp=>
  refine .row hs hn (fun i hi=>rfl) (fun i hi k v hk=>?_) (hf rfl) fun h=>by cases h
  have TB:k<3:=(List.getElem?_eq_some_iff.1 hk).1
  exact hv _ _ (zr (by rw[FZ hi TB];exact hk) (by omega))
theorem vP {es:List ae} {p:Bool} (h:cI ρ w l (.row es.length (fun i=>ae.enc (es.getD i default)) 3 p)):cI ρ w l (.cells (es.length*3) [] (ah (MC es) .leaf 0) false false):=by
 cases h with
 | row hs hn hu hv hf hp=>
  refine .cells hs hn (fun i v hi=>?_) (fun _=>hf) fun h=>by cases h
  obtain⟨h1,h2⟩:=MD hi
  have h3:i/3<es.length:=by omega
  have h4:i%3<3:=Nat.mod_lt _ (by decide)
  have e:i/3*3+i%3=i:=by omega
  have h5:=FZ h3 h4
  rw[e,h2] at h5
  obtain⟨x,g1,g2⟩:=hv _ h3 _ _ h5.symm
  rw[e] at g1
  exact⟨x,g1,g2⟩
theorem Cc {b n:Nat} {x:Value} (hn:n≠0) (h:au ρ (.slice b 0 n n false 3) x):au ρ (.own b n 3) x:=by
 cases h with
 | slice h hex cW hN oD=>
  obtain⟨h1,h2⟩:=cW rfl
  rcases h2 with h2 | h2
  ·subst h2;exact .own h h1 hN
  ·exact absurd h2.1 hn
theorem abu {P:Program} {f:FuncId} {vs:List V} {k:ai} {σ:St} (h:ag P f vs (fun v τ=>∃u,(∀(ρ:Go.Ev.Ren) (x:Value),au ρ v x→au ρ u x)∧k u τ) σ):ag P f vs k σ:=by
 refine⟨⟨?_,fun ρ w vs' hr hv=>?_⟩⟩
 ·obtain⟨⟨o,τ⟩,hx⟩:=h.h.1
  cases o with
  | val v=>obtain⟨u,_,hk⟩:=hx;exact⟨(.val u,τ),hk⟩
  | exit e a=>exact hx.elim
 ·obtain⟨g1,g2⟩:=dA.at h.h ρ w vs' hr hv
  refine⟨g1,g2.mono fun e w' hx=>?_⟩
  obtain⟨v,τ,ρ',v',h1,h2,h3,h4⟩:=hx
  obtain⟨u,g,hk⟩:=h1
  exact⟨u,τ,ρ',v',hk,h2,g _ _ h3,h4⟩
theorem Wl {T:List ae} {x:Value} (h:au ρ (af ae.enc 3 T) x):au ρ (.br (T.map ae.enc) 3 false) x:=by
 cases h with
 | arr hn h=>rw[my ae.enc T] at h;exact h
end
theorem abv {L:List ae} (h:L.length=2):∃u w,L=[u,w]:=by
 match L,h with
 | [u,w],_=>exact⟨u,w,rfl⟩
section
variable [Env] [aL] {vs:List V} {σ:St} {k:ai}
omit [aL] in
theorem vQ {b n:Nat} {qR:V} {q:b9} {L M:List ae} {q':b9} (hM:M=gF dW L) (hb:σ.heap.get b=some q) (OG:∀(ρ:Go.Ev.Ren) (x:Value),au ρ qR x→au ρ (.own b n 3) x) (hL:n=L.length)
  (hq:∀(ρ:Go.Ev.Ren) (w:World) (l:Go.Ev.Loc),cI ρ w l q→cI ρ w l (.row n (fun i=>ae.enc (L.getD i default)) 3 false)) (j8:∀(ρ:Go.Ev.Ren) (w:World) (l:Go.Ev.Loc),cI ρ w l (.row n (fun i=>ae.enc (M.getD i default)) 3 false)→cI ρ w l q')
  (h0:0<n) (h1:n≤1000) (hk:k (.tuple []) (σ.set b q')):ag Tryz.prog 77 [qR,.func (.func 78) [] []] k σ:=by
 subst hL hM
 refine(abt (nm:=fun i=>dW (L.getD i default)) hb OG hq (fun ρ w l h=>j8 ρ w l (OI h fun i hi=>?_)) h0 (by omega) fun i hi=>⟨_,_,rfl,rfl,rfl⟩).mono fun v τ hx=>?_
 ·rw[vL dW L hi]
 ·obtain⟨rfl,rfl⟩:=hx;exact hk
omit [aL] in
theorem abw (h:W77 vs σ k):ag Tryz.prog 77 vs k σ:=by
 unfold W77 at h
 split at h
 ·rename_i b n
  split at h
  ·rename_i m f p hb
   obtain⟨q,⟨h1,h2⟩,rfl,⟨h3,h4⟩,hk⟩:=h
   exact vQ (L:=q) rfl hb (fun _ _ h=>h) h1 (fun ρ w l h=>OI h h2) (fun _ _ _ h=>h) (by omega) (by omega) hk
  ·exact h.elim
 ·rename_i b
  split at h
  ·rename_i t p hb
   obtain⟨x,rfl,hk⟩:=h
   exact vQ (L:=[x]) (M:=[x]) (List.perm_singleton.1 (kG dW [x])).symm hb (fun _ _ h=>Cc (by decide) h) rfl (fun ρ w l h=>vO (es:=[x]) h) (fun _ _ _ h=>vP (es:=[x]) h) (by decide) (by decide) hk
  ·exact h.elim
 ·rename_i b
  split at h
  ·rename_i t p hb
   obtain⟨x,y,rfl,hk⟩:=h
   obtain⟨u,w,e⟩:=abv (n9 dW [x,y])
   exact vQ (L:=[x,y]) (M:=[u,w]) e.symm hb (fun _ _ h=>Cc (by decide) h) rfl (fun ρ w l h=>vO (es:=[x,y]) h) (fun _ _ _ h=>vP (es:=[u,w]) h) (by decide) (by decide) (hk u w e)
  ·exact h.elim
 ·exact h.elim
theorem Sn:∀ {f:FuncId} {vs:List V} {σ:St} {k:ai},T4 f vs σ k→ag Tryz.prog f vs k σ:=fun h=>aD abw Sc h
omit [aL] in
theorem JX {ρ:Go.Ev.Ren} {T:List ae} {e:Int} {x:Value} (h:au ρ (.tuple [af ae.enc 3 T,.int .i64 e]) x):au ρ (.tuple [.br (T.map ae.enc) 3 false,.int .i64 e]) x:=by
 cases h with
 | tuple h=>cases h with
  | cons h1 h2=>exact .tuple (.cons (Wl h1) h2)
theorem Wm (h:aa3 vs σ k):ag Tryz.prog 30 vs k σ:=by
 obtain⟨l,c,rfl,hp,h1,h2⟩:=h
 refine abu (OB ⟨l,c,rfl,hp,?_⟩)
 by_cases e:cK l c=0
 ·obtain⟨h3,h4⟩:=h2 e
  have hl:=(vK l c).1
  have h0:=(qF e).2.2
  match hT:ck l c,hl,h0 with
  | [x],_,_=>rw[e];exact⟨_,fun ρ y h=>JX (T:=[x]) h,h3 x hT⟩
  | [x,y],_,_=>rw[e];exact⟨_,fun ρ z h=>JX (T:=[x,y]) h,h4 x y hT⟩
 ·rw[show ck l c=[] from if_neg e]
  exact⟨_,fun ρ y h=>h,h1 e⟩
theorem F0:∀ {f:FuncId} {vs:List V} {σ:St} {k:ai},nK f vs σ k→ag Tryz.prog f vs k σ:=fun h=>aD Wm Sn h
end
end Go.Proofs.YtbajncpfmemdgaaGreatDoor
end
section
namespace Go.Proofs.YtbajncpfmemdgaaGreatDoor
open Go Go.Ev Go.IntWalk
theorem pa {l:List ae} {S:List (List UInt8)} {i:Nat} (h:gP S (l.getD i default).f0<0):eN l S (i+1)=eN l S i++[l.getD i default]:=wM (decide_eq_true h)
theorem nv {l:List ae} {S:List (List UInt8)} {i:Nat} (h:¬gP S (l.getD i default).f0<0):eN l S (i+1)=eN l S i:=xR (by rw[decide_eq_false h];exact Bool.false_ne_true)
theorem pW (l:List ae) (S:List (List UInt8)) (n:Nat):(eN l S n).length≤n:=kj _ _ _
theorem cz.cat {n:Nat} {f:Nat→V} {K T:List ae} (h:cz n f K):cz (n+T.length) (cw n f (jK (T.map ae.enc))) (K++T):=by
 obtain⟨rfl,h2⟩:=h
 refine⟨by simp,fun i hi=>?_⟩
 rw[o7]
 by_cases e:i<K.length
 ·rw[if_pos e,h2 i e]
  simp [List.getD_eq_getElem?_getD,List.getElem?_append_left e]
 ·rw[if_neg e]
  have hj:i-K.length<T.length:=by omega
  have:nth (T.map ae.enc) (i-K.length)=some (ae.enc (T.getD (i-K.length) default)):=by
   rw[dG,List.getElem?_map,List.getD_eq_getElem?_getD,List.getElem?_eq_getElem hj];rfl
  unfold jK
  rw[this]
  simp [List.getD_eq_getElem?_getD,List.getElem?_append_right (Nat.le_of_not_lt e)]
def Sp (T:List ae) (v:V):Prop:=(∃x,T=[x]∧v=.br [ae.enc x] 3 false)∨∃x y,T=[x,y]∧v=.br [ae.enc x,ae.enc y] 3 false
def JY (l:List ae) (c:an):Nat→List SV→Prop
 | 0,ss=>cK l c=0∧∃(i:Nat) (tv:V),i≤l.length∧Sp (ck l c) tv∧((eN l (aN c) i=[]∧ss=[.val tv,.val (af V.str 1 (aN c)),.val .aj,.val (af ae.enc 3 l),.val (.int .i64 ((l.length:Nat):Int)),.val (.int .i64 (i:Int))])∨
   ∃n f,0<n∧cz n f (eN l (aN c) i)∧ss=[.val tv,.val (af V.str 1 (aN c)),.row n f 3,.val (af ae.enc 3 l),.val (.int .i64 ((l.length:Nat):Int)),.val (.int .i64 (i:Int))])
 | _,_=>False
theorem Bp {l:List ae} {c:an} (h:cK l c=0):nu l c=if 16<(lF l c).length then 2 else 0:=if_neg fun g=>g h
theorem x8 {l:List ae} {c:an} (h:cK l c≠0):nu l c=cK l c:=if_pos h
section
variable [Env]
theorem OJ (es:List ae):Go.Ev.Clean (.br (es.map ae.enc) 3 false):=Go.Ev.Clean.br fun v hv u hu=>by
 obtain⟨x,_,rfl⟩:=List.mem_map.1 hv
 exact ae.clean x u hu
theorem Sp.clean {T:List ae} {v:V} (h:Sp T v):Go.Ev.Clean v:=by
 rcases h with ⟨x,_,rfl⟩ | ⟨x,y,_,rfl⟩
 ·exact OJ [x]
 ·exact OJ [x,y]
theorem JY.clean {l:List ae} {c:an}:∀k ss,JY l c k ss→∀s∈ss,s.clean
 | 0,_,⟨_,_,_,_,ht,.inl ⟨_,e⟩⟩=>by subst e;exact ax ht.clean (ax (dF _) (ax Go.Ev.Clean.aj (ax (bE l) (ay (ay bg)))))
 | 0,_,⟨_,_,_,_,ht,.inr ⟨_,_,_,hr,e⟩⟩=>by subst e;exact ax ht.clean (ax (dF _) (ax hr.cl (ax (bE l) (ay (ay bg)))))
 | n+1,_,h=>h.elim
theorem F1 {τ:St} {b m:Nat} {ex:Bool} {x y:ae} (h:τ.cells b 0 (2*3)=some (ae.cells x++ae.cells y)):ei τ (.slice b 0 2 m ex 3) (af ae.enc 3 [x,y]):=
 .jT (.slice (es:=[ae.enc x,ae.enc y]) h (.cons (.str _) (.cons (.int _ _) (.cons (.clean (er x.f2)) (.cons (.str _) (.cons (.int _ _) (.cons (.clean (er y.f2)) .nil)))))) (fun v hv=>by
  simp only[List.mem_cons,List.not_mem_nil,or_false] at hv
  rcases hv with rfl | rfl<;>rfl) rfl)
variable {σ:St} {k:ai}
theorem wQ {l:List ae} {c:an} (hk:k (.tuple [af ae.enc 3 (lG l c),.int .i64 (nu l c)]) σ) {e:Int} (h:nu l c=e) (h0:e≠0) {τ:St}:aK σ k (.tuple [.aj,.int .i64 e]) τ:=by
 have e':lG l c=[]:=if_neg (by rw[h];exact h0)
 rw[e',h] at hk
 exact aK.hR vJ hk
omit [Env] in
theorem F2 {l:List ae} {c:an} (hk:k (.tuple [af ae.enc 3 (lG l c),.int .i64 (nu l c)]) σ) (h:cK l c=0) (h1:¬ 16<(lF l c).length):k (.tuple [af ae.enc 3 (gF dW (lF l c)),.int .i64 0]) σ:=by
 have e:nu l c=0:=(Bp h).trans (if_neg h1)
 have e':lG l c=FO l c:=if_pos e
 rw[e,e',←FY h] at hk
 exact hk
variable [aL] {vs:List V}
structure pX (l:List ae) (c:an) (i:Nat) (σ:St) (k:ai):Prop where
 h0:cK l c=0
 hi:i≤l.length
 hl:l.length≤16
 hS:(aN c).length≤2
 ME:∀i,i<l.length→0<(l.getD i default).f2.length∧(l.getD i default).f2.length≤1000
 hk:k (.tuple [af ae.enc 3 (lG l c),.int .i64 (nu l c)]) σ
omit [Env] [aL] in
theorem pY {l:List ae} {i:Nat} (hi:i<l.length):l.length-((i:Int)+1).toNat<l.length-(i:Int).toNat:=by omega
omit [Env] [aL] in
theorem MF {S:List (List UInt8)} {s:List UInt8} (h:(!(decide (0≤gP S s)))=true):gP S s<0:=by
 rw[Bool.not_eq_true'] at h;exact Int.not_le.1 (of_decide_eq_false h)
omit [Env] [aL] in
theorem CY {S:List (List UInt8)} {s:List UInt8} (h:(!(decide (0≤gP S s)))=false):¬gP S s<0:=by
 rw[Bool.not_eq_false'] at h;exact Int.not_lt.2 (of_decide_eq_true h)
omit [Env] [aL] in
theorem pX.rep {l:List ae} {c:an} {i n:Nat} {f:Nat→V} {T:List ae} (_h:pX l c i σ k) (hT:ck l c=T) (hi:¬(i:Int)<((l.length:Nat):Int)) (hr:cz n f (eN l (aN c) i)):cz (n+T.length) (cw n f (jK (T.map ae.enc))) (lF l c):=by
 obtain rfl:i=l.length:=by have:=_h.hi;omega
 subst hT;exact hr.cat
omit [aL] in
theorem pX.fin {l:List ae} {c:an} {i n:Nat} {f:Nat→V} {T:List ae} {τ:St} {p:Bool} (h:pX l c i σ k) (hT:ck l c=T) (hi:¬(i:Int)<((l.length:Nat):Int)) (hr:cz n f (eN l (aN c) i)) (n0:¬((n+T.length:Nat):Int)>16) (hb:τ.heap.get 1=some (.row (n+T.length) (fun i=>ae.enc ((gF dW (lF l c)).getD i default)) 3 p)):aK σ k (.tuple [.own 1 (n+T.length) 3,.int .i64 0]) τ:=by
 have hu:=(h.rep hT hi hr).1
 exact aK.hR (.cons (fy hb ⟨by rw[n9,hu],fun _ _=>rfl⟩) (.cons (.int _ _) .nil)) (F2 h.hk h.h0 (by rw[←hu];omega))
omit [aL] in
theorem pX.big {l:List ae} {c:an} {i n:Nat} {f:Nat→V} {T:List ae} {τ:St} (h:pX l c i σ k) (hT:ck l c=T) (hi:¬(i:Int)<((l.length:Nat):Int)) (hr:cz n f (eN l (aN c) i)) (n0:((n+T.length:Nat):Int)>16):aK σ k (.tuple [.aj,.int .i64 2]) τ:=by
 have hu:=(h.rep hT hi hr).1
 exact wQ h.hk ((Bp h.h0).trans (if_pos (by rw[←hu];omega))) (by decide)
omit [Env] [aL] in
theorem pX.none {l:List ae} {c:an} {i:Nat} {T:List ae} (h:pX l c i σ k) (hT:ck l c=T) (h2:T.length≤2) (hi:¬(i:Int)<((l.length:Nat):Int)) (he:eN l (aN c) i=[]):k (.tuple [af ae.enc 3 (gF dW T),.int .i64 0]) σ:=by
 obtain rfl:i=l.length:=by have:=h.hi;omega
 subst hT
 have hu:lF l c=ck l c:=by unfold lF;rw[he];rfl
 have:=F2 h.hk h.h0 (by rw[hu];omega)
 rwa [hu] at this
omit [aL] in
theorem ada {l:List ae} {c:an} {i:Nat} {x:ae} {ss:List SV} (R:pX l c i σ k) (hx:ck l c=[x]) (hI:(eN l (aN c) i=[]∧ss=[.val (.br [ae.enc x] 3 false),.val (af V.str 1 (aN c)),.val .aj,.val (af ae.enc 3 l),.val (.int .i64 ((l.length:Nat):Int)),.val (.int .i64 (i:Int))])∨
   ∃n f,0<n∧cz n f (eN l (aN c) i)∧ss=[.val (.br [ae.enc x] 3 false),.val (af V.str 1 (aN c)),.row n f 3,.val (af ae.enc 3 l),.val (.int .i64 ((l.length:Nat):Int)),.val (.int .i64 (i:Int))]):
  WL Tryz.prog 36 Tryz.f36 nK 0 oa (fun k' ey=>JY l c k' ey∧l.length-bF ey<l.length-bF ss) (aK σ k) 0 ss:=by
 have h0:=R.h0
 have hi:=R.hi
 have hl:=R.hl
 have hS:=R.hS
 rcases hI with ⟨he,rfl⟩ | ⟨n,f,jQ,hr,rfl⟩
 ·rw[ac2]
  refine⟨rfl,aq (fun a1=>⟨⟨by omega,by omega⟩,_,rfl,by omega,aa.mk (fun a2=>⟨_,rfl,R.ME i (by omega),⟨rfl,rfl,rfl⟩,?_⟩) fun a2=>?_⟩) fun a1=>⟨rfl,⟨x,rfl,?_⟩⟩⟩
  ·rw[cA] at a2⊢
   rw[i64_in ((i:Int)+1) (by omega)]
   exact⟨⟨h0,i+1,_,by omega,.inl ⟨x,hx,rfl⟩,.inr ⟨1,_,by omega,by rw[pa (MF a2),he];exact cz.one _,rfl⟩⟩,pY (by omega)⟩
  ·rw[cA] at a2
   rw[i64_in ((i:Int)+1) (by omega)]
   exact⟨⟨h0,i+1,_,by omega,.inl ⟨x,hx,rfl⟩,.inl ⟨(nv (CY a2)).trans he,rfl⟩⟩,pY (by omega)⟩
  ·have hk:=R.none hx (by first | exact Nat.le_refl 2 | exact Nat.le_succ 1) a1 he
   first
    | (rw[show gF dW [x]=[x] from List.perm_singleton.1 (kG dW [x])] at hk
       exact aK.hR (.cons (nk rfl) (.cons (.int _ _) .nil)) hk)
    | (rw[e] at hk
       exact aK.hR (.cons (F1 rfl) (.cons (.int _ _) .nil)) hk)
 ·have hn:=hr.1
  have jA:=pW l (aN c) i
  rw[ac3]
  refine⟨rfl,aq (fun a1=>⟨⟨by omega,by omega⟩,_,rfl,by omega,aa.mk (fun a2=>⟨_,rfl,R.ME i (by omega),⟨rfl,by omega⟩,⟨rfl,rfl⟩,?_⟩) fun a2=>⟨⟨rfl,rfl⟩,?_⟩⟩) fun a1=>⟨⟨rfl,by omega⟩,rfl,aq (fun a3=>R.big hx a1 hr a3) fun a3=>⟨lF l c,R.rep hx a1 hr,rfl,?_,R.fin hx a1 hr a3 rfl⟩⟩⟩
  ·rw[cA] at a2⊢
   rw[i64_in ((i:Int)+1) (by omega)]
   exact⟨⟨h0,i+1,_,by omega,.inl ⟨x,hx,rfl⟩,.inr ⟨n+1,_,by omega,by rw[pa (MF a2)];exact hr.push _,rfl⟩⟩,pY (by omega)⟩
  ·rw[cA] at a2
   rw[i64_in ((i:Int)+1) (by omega)]
   exact⟨⟨h0,i+1,_,by omega,.inl ⟨x,hx,rfl⟩,.inr ⟨n,f,jQ,by rw[nv (CY a2)];exact hr,rfl⟩⟩,pY (by omega)⟩
  ·have:=(R.rep hx a1 hr).1
   have h2:([x]).length≤2:=by first | exact Nat.le_refl 2 | exact Nat.le_succ 1
   omega
omit [aL] in
theorem adb {l:List ae} {c:an} {i:Nat} {x y:ae} {ss:List SV} (R:pX l c i σ k) (hx:ck l c=[x,y]) (hI:(eN l (aN c) i=[]∧ss=[.val (.br [ae.enc x,ae.enc y] 3 false),.val (af V.str 1 (aN c)),.val .aj,.val (af ae.enc 3 l),.val (.int .i64 ((l.length:Nat):Int)),.val (.int .i64 (i:Int))])∨
   ∃n f,0<n∧cz n f (eN l (aN c) i)∧ss=[.val (.br [ae.enc x,ae.enc y] 3 false),.val (af V.str 1 (aN c)),.row n f 3,.val (af ae.enc 3 l),.val (.int .i64 ((l.length:Nat):Int)),.val (.int .i64 (i:Int))]):
  WL Tryz.prog 36 Tryz.f36 nK 0 oa (fun k' ey=>JY l c k' ey∧l.length-bF ey<l.length-bF ss) (aK σ k) 0 ss:=by
 have h0:=R.h0
 have hi:=R.hi
 have hl:=R.hl
 have hS:=R.hS
 rcases hI with ⟨he,rfl⟩ | ⟨n,f,jQ,hr,rfl⟩
 ·rw[ac4]
  refine⟨rfl,aq (fun a1=>⟨⟨by omega,by omega⟩,_,rfl,by omega,aa.mk (fun a2=>⟨_,rfl,R.ME i (by omega),⟨rfl,rfl,rfl⟩,?_⟩) fun a2=>?_⟩) fun a1=>⟨rfl,⟨x,y,rfl,fun u w e=>?_⟩⟩⟩
  ·rw[cA] at a2⊢
   rw[i64_in ((i:Int)+1) (by omega)]
   exact⟨⟨h0,i+1,_,by omega,.inr ⟨x,y,hx,rfl⟩,.inr ⟨1,_,by omega,by rw[pa (MF a2),he];exact cz.one _,rfl⟩⟩,pY (by omega)⟩
  ·rw[cA] at a2
   rw[i64_in ((i:Int)+1) (by omega)]
   exact⟨⟨h0,i+1,_,by omega,.inr ⟨x,y,hx,rfl⟩,.inl ⟨(nv (CY a2)).trans he,rfl⟩⟩,pY (by omega)⟩
  ·have hk:=R.none hx (by first | exact Nat.le_refl 2 | exact Nat.le_succ 1) a1 he
   first
    | (rw[show gF dW [x]=[x] from List.perm_singleton.1 (kG dW [x])] at hk
       exact aK.hR (.cons (nk rfl) (.cons (.int _ _) .nil)) hk)
    | (rw[e] at hk
       exact aK.hR (.cons (F1 rfl) (.cons (.int _ _) .nil)) hk)
 ·have hn:=hr.1
  have jA:=pW l (aN c) i
  rw[ac5]
  refine⟨rfl,aq (fun a1=>⟨⟨by omega,by omega⟩,_,rfl,by omega,aa.mk (fun a2=>⟨_,rfl,R.ME i (by omega),⟨rfl,by omega⟩,⟨rfl,rfl⟩,?_⟩) fun a2=>⟨⟨rfl,rfl⟩,?_⟩⟩) fun a1=>⟨⟨rfl,by omega⟩,rfl,aq (fun a3=>R.big hx a1 hr a3) fun a3=>⟨lF l c,R.rep hx a1 hr,rfl,?_,R.fin hx a1 hr a3 rfl⟩⟩⟩
  ·rw[cA] at a2⊢
   rw[i64_in ((i:Int)+1) (by omega)]
   exact⟨⟨h0,i+1,_,by omega,.inr ⟨x,y,hx,rfl⟩,.inr ⟨n+1,_,by omega,by rw[pa (MF a2)];exact hr.push _,rfl⟩⟩,pY (by omega)⟩
  ·rw[cA] at a2
   rw[i64_in ((i:Int)+1) (by omega)]
   exact⟨⟨h0,i+1,_,by omega,.inr ⟨x,y,hx,rfl⟩,.inr ⟨n,f,jQ,by rw[nv (CY a2)];exact hr,rfl⟩⟩,pY (by omega)⟩
  ·have:=(R.rep hx a1 hr).1
   have h2:([x,y]).length≤2:=by first | exact Nat.le_refl 2 | exact Nat.le_succ 1
   omega
theorem abx (h:W36 vs σ k):ag Tryz.prog 36 vs k σ:=by
 obtain⟨l,c,rfl,hp,hk⟩:=h
 refine ag.aV (ar (bE l) (ar c.aE aG)) (F36.gV (live:=oa) (call:=nK) (fun h=>F0 h) 1 (by kernel_rfl) Nat.lt_wfRel.wf (fun _ ss=>l.length-bF ss) (JY l c) JY.clean ?_ ?_)
 ·rw[e36]
  exact⟨l,c,rfl,hp,fun h0=>⟨rfl,aq (fun _=>wQ hk (x8 h0) h0) fun a=>absurd h0 a⟩,
   fun h0=>⟨fun x hx=>⟨rfl,c,rfl,h0,0,_,Nat.zero_le _,.inl ⟨x,hx,rfl⟩,.inl ⟨rfl,rfl⟩⟩,fun x y hx=>⟨rfl,c,rfl,h0,0,_,Nat.zero_le _,.inr ⟨x,y,hx,rfl⟩,.inl ⟨rfl,rfl⟩⟩⟩⟩
 ·intro j hj ss hI
  obtain rfl:j=0:=by omega
  obtain⟨h0,i,tv,hi,ht,hI⟩:=hI
  obtain⟨g2,g3⟩:=cp (lE h0).1
  have R:pX l c i σ k:=⟨h0,hi,g2,xX c,fun i hi=>by
   have:=(kY (g3 _ (bm hi))).1
   obtain⟨_,h1,h2,_⟩:=this
   omega,hk⟩
  rcases ht with ⟨x,hx,rfl⟩ | ⟨x,y,hx,rfl⟩
  ·exact ada R hx hI
  ·exact adb R hx hI
theorem F3:∀ {f:FuncId} {vs:List V} {σ:St} {k:ai},tt f vs σ k→ag Tryz.prog f vs k σ:=fun h=>aD abx F0 h
end
end Go.Proofs.YtbajncpfmemdgaaGreatDoor
end
