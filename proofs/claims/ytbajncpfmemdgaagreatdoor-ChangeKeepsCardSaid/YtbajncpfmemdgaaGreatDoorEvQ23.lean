/- Proved: parts of the way: Ris, BEq27, BEq28, BE1, SrL, BE2, BE3, BE4, Typed, XC. -/
import Derived.Test.YtbajncpfmemdgaaGreatDoorEvQ22
import Derived.Sort.LotA
import Derived.Laws.Cover1
import Derived.Test.YtbajncpfmemdgaaGreatDoorProg
import Derived.Test.YtbajncpfmemdgaaGreatDoorEvQ13
set_option linter.unusedVariables false
set_option linter.unusedSimpArgs false
section
namespace Go.Proofs.YtbajncpfmemdgaaGreatDoor
open Go Go.Ev
section
variable {α:Type} (nm:α→List UInt8)
def kV (t:α):List α→List α
 | []=>[t]
 | x::r=>if Op.bytesLess (nm t) (nm x)=true then t::x::r else x::kV t r
def fk (l:List α):Prop:=l.Pairwise fun a b=>nm a<nm b
def ma (l:List α):Prop:=l.Pairwise fun a b=>nm a≠nm b
theorem pT (t:α):∀l:List α,(kV nm t l).Perm (t::l)
 | []=>.refl _
 | x::r=>by
  unfold kV
  split
  ·exact .refl _
  ·exact((pT t r).cons x).trans (.swap t x r)
theorem VF {s t:List UInt8} (h:¬s<t) (bQ:t≠s):t<s:=by
 rcases Std.lt_trichotomy s t with g | g | g
 ·exact absurd g h
 ·exact absurd g.symm bQ
 ·exact g
theorem wN {t:α}:∀ {l:List α},fk nm l→(∀x∈l,nm x≠nm t)→fk nm (kV nm t l)
 | [],_,_=>List.pairwise_singleton _ _
 | x::r,h,hn=>by
  unfold kV
  obtain⟨h1,h2⟩:=List.pairwise_cons.1 h
  rw[bytesLess_eq]
  split
  ·rename_i g
   have g:=of_decide_eq_true g
   refine List.pairwise_cons.2 ⟨fun b hb=>?_,h⟩
   rcases List.mem_cons.1 hb with rfl | hb
   ·exact g
   ·exact List.lt_trans g (h1 b hb)
  ·rename_i g
   have g:¬nm t<nm x:=fun h=>g (decide_eq_true h)
   refine List.pairwise_cons.2 ⟨fun b hb=>?_,wN h2 fun y hy=>hn y (List.mem_cons_of_mem _ hy)⟩
   rcases List.mem_cons.1 ((pT nm t r).mem_iff.1 hb) with rfl | hb
   ·exact VF g (hn x List.mem_cons_self)
   ·exact h1 b hb
theorem uj:∀ {l m:List α},l.Perm m→fk nm l→fk nm m→l=m
 | [],m,h,_,_=>(List.nil_perm.1 h).symm
 | x::l,[],h,_,_=>absurd h.length_eq (by simp)
 | x::l,y::m,h,hl,hm=>by
  obtain⟨l1,l2⟩:=List.pairwise_cons.1 hl
  obtain⟨m1,m2⟩:=List.pairwise_cons.1 hm
  have e:x=y:=by
   rcases List.mem_cons.1 (h.mem_iff.1 List.mem_cons_self) with e | e
   ·exact e
   ·rcases List.mem_cons.1 (h.symm.mem_iff.1 List.mem_cons_self) with e' | e'
    ·exact e'.symm
    ·exact absurd (List.lt_trans (l1 y e') (m1 x e)) (List.lt_irrefl _)
  subst e
  rw[uj (List.Perm.cons_inv h) l2 m2]
theorem qq:∀(T K:List α),(T.foldl (fun o t=>kV nm t o) K).Perm (K++T)
 | [],K=>by rw[List.append_nil];exact .refl _
 | t::T,K=>(qq T (kV nm t K)).trans (((pT nm t K).append_right T).trans List.perm_middle.symm)
theorem nL:∀ {T K:List α},fk nm K→ma nm (K++T)→fk nm (T.foldl (fun o t=>kV nm t o) K)
 | [],K,h,_=>h
 | t::T,K,h,ha=>by
  have GR:ma nm (t::(K++T)):=(List.perm_middle.pairwise_iff fun h=>Ne.symm h).1 ha
  obtain⟨a1,a2⟩:=List.pairwise_cons.1 GR
  show fk nm (T.foldl (fun o t=>kV nm t o) (kV nm t K))
  refine nL (T:=T) (K:=kV nm t K) (wN nm h fun x hx=>Ne.symm (a1 x (List.mem_append_left _ hx))) ?_
  exact(((pT nm t K).append_right T).symm.pairwise_iff fun h=>Ne.symm h).1 GR
variable [Inhabited α]
noncomputable def gf (l:List α):List α:=(fj l.length fun i=>nm (l.getD i default)).toList.map fun i=>l.getD i default
theorem zW:Sort.SWO (ltOf jj):=by
 have e:ltOf jj=Sort.ltStr:=by
  funext x y
  unfold ltOf jj
  rw[bytesLess_eq]
  by_cases h:x<y
  ·simp [Sort.ltStr,h]
  ·have g:¬(if x=y then(0:Int) else 1)<0:=by split<;>decide
   rw[decide_eq_false h,if_neg Bool.false_ne_true,decide_eq_false g]
   exact(decide_eq_false h).symm
 rw[e];exact Sort.swo_ltStr
theorem uk (l:List α):(List.range l.length).map (fun i=>l.getD i default)=l:=by
 refine List.ext_getElem (by simp) fun i h1 h2=>?_
 simp [List.getD_eq_getElem?_getD,List.getElem?_eq_getElem h2]
theorem jW (l:List α):(gf nm l).Perm l:=by
 have h:=(rm zW l.length fun i=>nm (l.getD i default)).2.1.map fun i=>l.getD i default
 rwa [uk] at h
theorem nC (l:List α):(gf nm l).length=l.length:=(jW nm l).length_eq
theorem um (l:List α) {i:Nat} (hi:i<l.length):(gf nm l).getD i default=l.getD (fj l.length fun i=>nm (l.getD i default))[i]! default:=by
 have hs:=(rm zW l.length fun i=>nm (l.getD i default)).1
 have h2:i<(fj l.length fun i=>nm (l.getD i default)).size:=by omega
 unfold gf
 rw[List.getD_eq_getElem?_getD,List.getElem?_map,getElem!_pos _ i h2,Array.getElem?_toList,Array.getElem?_eq_getElem h2];rfl
theorem Dx {l:List α} (h:ma nm l):fk nm (gf nm l):=by
 have ha:ma nm (gf nm l):=((jW nm l).pairwise_iff fun h=>Ne.symm h).2 h
 have h3:=(rm zW l.length fun i=>nm (l.getD i default)).2.2
 refine List.pairwise_iff_getElem.2 fun i j hi hj jH=>?_
 have hn:=List.pairwise_iff_getElem.1 ha i j hi hj jH
 rw[nC] at hi hj
 have g:=h3 i j jH hj
 rw[bytesLess_eq,pd (vI zW hj),pd (vI zW hi),←um nm l hj,←um nm l hi] at g
 have g:=of_decide_eq_false g
 rw[List.getD_eq_getElem?_getD,List.getD_eq_getElem?_getD,List.getElem?_eq_getElem (by rw[nC];exact hj),List.getElem?_eq_getElem (by rw[nC];exact hi)] at g
 exact VF g hn
theorem N7 {K T:List α} (hK:fk nm K) (ha:ma nm (K++T)):gf nm (K++T)=T.foldl (fun o t=>kV nm t o) K:=
 uj nm ((jW nm _).trans (qq nm T K).symm) (Dx nm ha) (nL nm hK ha)
end
end Go.Proofs.YtbajncpfmemdgaaGreatDoor
end
section
namespace Go.Proofs.YtbajncpfmemdgaaGreatDoor
open Go Go.Ev
def fp (t:aa):List UInt8:=t.f0
noncomputable def cZ (l:List aa) (S:List (List UInt8)) (n:Nat):List aa:=bj (fun i=>decide (eT S (l.getD i default).f0<0)) (fun i=>l.getD i default) n
noncomputable def j8 (l:List aa) (c:ak):List aa:=cZ l (aK c) l.length++bY l c
noncomputable def jk (l:List aa) (c:ak):Int:=if ct l c≠0 then ct l c else if 16<(j8 l c).length then 2 else 0
noncomputable def xw (l:List aa) (c:ak):List aa:=(bY l c).foldl (fun o t=>kV fp t o) (cZ l (aK c) l.length)
noncomputable def dS (l:List aa) (c:ak):List aa:=if jk l c=0 then xw l c else []
def VG [Env] (vs:List V) (σ:St) (k:ah):Prop:=
 match vs with
 | [.own b n 3,.func (.func 78) [] []]=>(match σ.heap.get b with
  | some (.row m f 3 _)=>∃q:List aa,(m=q.length∧∀i,i<m→f i=aa.enc (q.getD i default))∧n=m∧(0<q.length∧q.length≤1000)∧k (.tuple []) (σ.set b (.row m (fun i=>aa.enc ((gf fp q).getD i default)) 3 false))
  | _=>False)
 | [.slice b 0 1 1 false 3,.func (.func 78) [] []]=>(match σ.heap.get b with
  | some (.cells 3 [] t _ false)=>∃x:aa,t=an (aa.cells x) .leaf 0∧k (.tuple []) (σ.set b (.cells 3 [] (an (aa.cells x) .leaf 0) false false))
  | _=>False)
 | [.slice b 0 2 2 false 3,.func (.func 78) [] []]=>(match σ.heap.get b with
  | some (.cells 6 [] t _ false)=>∃x y:aa,t=an (aa.cells x++aa.cells y) .leaf 0∧∀u w:aa,gf fp [x,y]=[u,w]→k (.tuple []) (σ.set b (.cells 6 [] (an (aa.cells u++aa.cells w) .leaf 0) false false))
  | _=>False)
 | _=>False
def VH [Env]:=kS 77 VG Vx
def VI [Env] (vs:List V) (σ:St) (k:ah):Prop:=
 ∃(l:List aa) (c:ak),vs=[ae aa.enc 3 l,ak.enc c]∧(fi c∧c.f7.length≤1000000∧∀t∈l,dz t)∧(ct l c≠0→k (.tuple [ae aa.enc 3 [],.int .i64 (ct l c)]) σ)∧(ct l c=0→(∀x:aa,bY l c=[x]→k (.tuple [.bk [aa.enc x] 3 false,.int .i64 0]) σ)∧(∀x y:aa,bY l c=[x,y]→k (.tuple [.bk [aa.enc x,aa.enc y] 3 false,.int .i64 0]) σ))
def qt [Env]:=kS 30 VI VH
def nD:Nat→List Nat:=(fun i=>match i with | 0=>[6,8,9,23,24,25] | _=>[])
theorem e36 [Env] (A:Nat→List SV→Prop) (Q:V→St→Prop) (l:List aa) (c:ak):WE Tryz.prog 36 Tryz.f36 qt 0 nD A Q [ae aa.enc 3 l,ak.enc c] Go.Ev.start=
  ((∃(uo:List aa) (sF:ak),[ae aa.enc 3 l,.agg (ak.cells c)]=[ae aa.enc 3 uo,ak.enc sF]∧(fi sF∧sF.f7.length≤1000000∧∀t∈uo,dz t)∧(ct uo sF≠0→((.i64:IntKind)=.i64∧af (decide ((ct uo sF)≠(0:Int))) (Q (.tuple [.ai,.int .i64 (ct uo sF)]) ⟨(St.new Go.Ev.start 0 (.cells 18 [] (an (ak.cells c) .leaf 0) true false)).heap,1⟩) ((∃VJ:ak,[.agg (ak.cells c)]=[ak.enc VJ]∧A 0 [.val (ae aa.enc 3 ([])),.val (ae V.str 1 ((aK VJ))),.val (.ai),.val (ae aa.enc 3 l),.val (.int .i64 (((l.length:Nat):Int))),.val (.int .i64 (0:Int))]))))∧(ct uo sF=0→(∀VK:aa,bY uo sF=[VK]→((.i64:IntKind)=.i64∧(∃VL:ak,[.agg (ak.cells c)]=[ak.enc VL]∧A 0 [.val (.bk [aa.enc VK] 3 false),.val (ae V.str 1 ((aK VL))),.val (.ai),.val (ae aa.enc 3 l),.val (.int .i64 (((l.length:Nat):Int))),.val (.int .i64 (0:Int))])))∧(∀VM VN:aa,bY uo sF=[VM,VN]→((.i64:IntKind)=.i64∧(∃VO:ak,[.agg (ak.cells c)]=[ak.enc VO]∧A 0 [.val (.bk [aa.enc VM,aa.enc VN] 3 false),.val (ae V.str 1 ((aK VO))),.val (.ai),.val (ae aa.enc 3 l),.val (.int .i64 (((l.length:Nat):Int))),.val (.int .i64 (0:Int))])))))):=by kernel_rfl
theorem XF [Env] (A:Nat→List SV→Prop) (Q:V→St→Prop) (s:List (List UInt8)) (l:List aa) (m i:Int) (x:aa):WL Tryz.prog 36 Tryz.f36 qt 0 nD A Q 0 [.val (.bk [aa.enc x] 3 false),.val (ae V.str 1 s),.val (.ai),.val (ae aa.enc 3 l),.val (.int .i64 m),.val (.int .i64 i)]=
  (((.i64:IntKind)=.i64∧af (decide (i<m)) (((0≤i∧i<((l.length:Nat):Int))∧(∃VP:Nat→List UInt8,(fun i=>V.str (s.getD i default))=(fun i=>V.str (VP i))∧s.length≤1000000∧af ((!(decide (0≤cd ((l.getD i.toNat default).f0) VP s.length)))) ((∃Ji:List aj,[ae aj.enc 7 ((l.getD i.toNat default).f2)]=[ae aj.enc 7 Ji]∧(0<Ji.length∧Ji.length≤1000)∧(((1:Nat)=1∧(1:Nat)=1∧1*3=1*3)∧A 0 [.val (.bk [aa.enc x] 3 false),.val (ae V.str 1 s),.row 1 (fun _=>.agg [.str ((l.getD i.toNat default).f0),.int .i64 ((l.getD i.toNat default).f1),ae aj.enc 7 Ji]) 3,.val (ae aa.enc 3 l),.val (.int .i64 m),.val (.int .i64 (IntKind.i64.wrap (i+(1:Int))))]))) (A 0 [.val (.bk [aa.enc x] 3 false),.val (ae V.str 1 s),.val (.ai),.val (ae aa.enc 3 l),.val (.int .i64 m),.val (.int .i64 (IntKind.i64.wrap (i+(1:Int))))])))) (((.i64:IntKind)=.i64∧(∃VQ:aa,(an (aa.cells x) .leaf 0:Trie V)=an (aa.cells VQ) .leaf 0∧Q (.tuple [.slice 0 0 (1) (1) false 3,.int .i64 (0:Int)]) ⟨(St.new Go.Ev.start 0 (.cells 3 [] (an (aa.cells VQ) .leaf 0) false false)).heap,1⟩))))):=by kernel_rfl
theorem XG [Env] (A:Nat→List SV→Prop) (Q:V→St→Prop) (s:List (List UInt8)) (l:List aa) (m i:Int) (n:Nat) (f:Nat→V) (x:aa):WL Tryz.prog 36 Tryz.f36 qt 0 nD A Q 0 [.val (.bk [aa.enc x] 3 false),.val (ae V.str 1 s),.row n f 3,.val (ae aa.enc 3 l),.val (.int .i64 m),.val (.int .i64 i)]=
  (((.i64:IntKind)=.i64∧af (decide (i<m)) (((0≤i∧i<((l.length:Nat):Int))∧(∃VR:Nat→List UInt8,(fun i=>V.str (s.getD i default))=(fun i=>V.str (VR i))∧s.length≤1000000∧af ((!(decide (0≤cd ((l.getD i.toNat default).f0) VR s.length)))) ((∃Jj:List aj,[ae aj.enc 7 ((l.getD i.toNat default).f2)]=[ae aj.enc 7 Jj]∧(0<Jj.length∧Jj.length≤1000)∧((n=n∧(n+1)*48≤1099511627776)∧(((n+1)=(n+1)∧3=3)∧A 0 [.val (.bk [aa.enc x] 3 false),.val (ae V.str 1 s),.row (n+1) (dY n f (fun _=>.agg [.str ((l.getD i.toNat default).f0),.int .i64 ((l.getD i.toNat default).f1),ae aj.enc 7 Jj])) 3,.val (ae aa.enc 3 l),.val (.int .i64 m),.val (.int .i64 (IntKind.i64.wrap (i+(1:Int))))])))) (((n=n∧3=3)∧A 0 [.val (.bk [aa.enc x] 3 false),.val (ae V.str 1 s),.row n f 3,.val (ae aa.enc 3 l),.val (.int .i64 m),.val (.int .i64 (IntKind.i64.wrap (i+(1:Int))))]))))) (((n=n∧(n+1)*48≤1099511627776)∧((.i64:IntKind)=.i64∧af (decide ((((n+1:Nat):Int))>(16:Int))) (Q (.tuple [.ai,.int .i64 (2:Int)]) ⟨(St.new Go.Ev.start 1 (.row (n+1) (dY n f (kD [aa.enc x])) 3 false)).heap,2⟩) ((∃Dy:List aa,((n+1)=Dy.length∧∀i,i<(n+1)→((dY n f (kD [aa.enc x])):Nat→V) i=aa.enc (Dy.getD i default))∧(n+1)=(n+1)∧(0<Dy.length∧Dy.length≤1000)∧Q (.tuple [.own 1 (n+1) 3,.int .i64 (0:Int)]) ⟨(St.new Go.Ev.start 1 (.row (n+1) (fun i=>aa.enc (((gf fp Dy)).getD i default)) 3 false)).heap,2⟩))))))):=by kernel_rfl
theorem XH [Env] (A:Nat→List SV→Prop) (Q:V→St→Prop) (s:List (List UInt8)) (l:List aa) (m i:Int) (x y:aa):WL Tryz.prog 36 Tryz.f36 qt 0 nD A Q 0 [.val (.bk [aa.enc x,aa.enc y] 3 false),.val (ae V.str 1 s),.val (.ai),.val (ae aa.enc 3 l),.val (.int .i64 m),.val (.int .i64 i)]=
  (((.i64:IntKind)=.i64∧af (decide (i<m)) (((0≤i∧i<((l.length:Nat):Int))∧(∃VT:Nat→List UInt8,(fun i=>V.str (s.getD i default))=(fun i=>V.str (VT i))∧s.length≤1000000∧af ((!(decide (0≤cd ((l.getD i.toNat default).f0) VT s.length)))) ((∃Jk:List aj,[ae aj.enc 7 ((l.getD i.toNat default).f2)]=[ae aj.enc 7 Jk]∧(0<Jk.length∧Jk.length≤1000)∧(((1:Nat)=1∧(1:Nat)=1∧1*3=1*3)∧A 0 [.val (.bk [aa.enc x,aa.enc y] 3 false),.val (ae V.str 1 s),.row 1 (fun _=>.agg [.str ((l.getD i.toNat default).f0),.int .i64 ((l.getD i.toNat default).f1),ae aj.enc 7 Jk]) 3,.val (ae aa.enc 3 l),.val (.int .i64 m),.val (.int .i64 (IntKind.i64.wrap (i+(1:Int))))]))) (A 0 [.val (.bk [aa.enc x,aa.enc y] 3 false),.val (ae V.str 1 s),.val (.ai),.val (ae aa.enc 3 l),.val (.int .i64 m),.val (.int .i64 (IntKind.i64.wrap (i+(1:Int))))])))) (((.i64:IntKind)=.i64∧(∃VU VV:aa,(an [.str x.f0,.int .i64 x.f1,ae aj.enc 7 x.f2,.str y.f0,.int .i64 y.f1,ae aj.enc 7 y.f2] .leaf 0:Trie V)=an (aa.cells VU++aa.cells VV) .leaf 0∧∀Jl Jm:aa,gf fp [VU,VV]=[Jl,Jm]→Q (.tuple [.slice 0 0 (2) (2) false 3,.int .i64 (0:Int)]) ⟨(St.new Go.Ev.start 0 (.cells 6 [] (an [.str Jl.f0,.int .i64 Jl.f1,ae aj.enc 7 Jl.f2,.str Jm.f0,.int .i64 Jm.f1,ae aj.enc 7 Jm.f2] .leaf 0) false false)).heap,1⟩))))):=by kernel_rfl
theorem XI [Env] (A:Nat→List SV→Prop) (Q:V→St→Prop) (s:List (List UInt8)) (l:List aa) (m i:Int) (n:Nat) (f:Nat→V) (x y:aa):WL Tryz.prog 36 Tryz.f36 qt 0 nD A Q 0 [.val (.bk [aa.enc x,aa.enc y] 3 false),.val (ae V.str 1 s),.row n f 3,.val (ae aa.enc 3 l),.val (.int .i64 m),.val (.int .i64 i)]=
  (((.i64:IntKind)=.i64∧af (decide (i<m)) (((0≤i∧i<((l.length:Nat):Int))∧(∃VW:Nat→List UInt8,(fun i=>V.str (s.getD i default))=(fun i=>V.str (VW i))∧s.length≤1000000∧af ((!(decide (0≤cd ((l.getD i.toNat default).f0) VW s.length)))) ((∃Jn:List aj,[ae aj.enc 7 ((l.getD i.toNat default).f2)]=[ae aj.enc 7 Jn]∧(0<Jn.length∧Jn.length≤1000)∧((n=n∧(n+1)*48≤1099511627776)∧(((n+1)=(n+1)∧3=3)∧A 0 [.val (.bk [aa.enc x,aa.enc y] 3 false),.val (ae V.str 1 s),.row (n+1) (dY n f (fun _=>.agg [.str ((l.getD i.toNat default).f0),.int .i64 ((l.getD i.toNat default).f1),ae aj.enc 7 Jn])) 3,.val (ae aa.enc 3 l),.val (.int .i64 m),.val (.int .i64 (IntKind.i64.wrap (i+(1:Int))))])))) (((n=n∧3=3)∧A 0 [.val (.bk [aa.enc x,aa.enc y] 3 false),.val (ae V.str 1 s),.row n f 3,.val (ae aa.enc 3 l),.val (.int .i64 m),.val (.int .i64 (IntKind.i64.wrap (i+(1:Int))))]))))) (((n=n∧(n+2)*48≤1099511627776)∧((.i64:IntKind)=.i64∧af (decide ((((n+2:Nat):Int))>(16:Int))) (Q (.tuple [.ai,.int .i64 (2:Int)]) ⟨(St.new Go.Ev.start 1 (.row (n+2) (dY n f (kD [aa.enc x,aa.enc y])) 3 false)).heap,2⟩) ((∃Dz:List aa,((n+2)=Dz.length∧∀i,i<(n+2)→((dY n f (kD [aa.enc x,aa.enc y])):Nat→V) i=aa.enc (Dz.getD i default))∧(n+2)=(n+2)∧(0<Dz.length∧Dz.length≤1000)∧Q (.tuple [.own 1 (n+2) 3,.int .i64 (0:Int)]) ⟨(St.new Go.Ev.start 1 (.row (n+2) (fun i=>aa.enc (((gf fp Dz)).getD i default)) 3 false)).heap,2⟩))))))):=by kernel_rfl
def Zt [Env] (vs:List V) (σ:St) (k:ah):Prop:=
 ∃(l:List aa) (c:ak),vs=[ae aa.enc 3 l,ak.enc c]∧(fi c∧c.f7.length≤1000000∧∀t∈l,dz t)∧k (.tuple [ae aa.enc 3 (dS l c),.int .i64 (jk l c)]) σ
def VX [Env]:=kS 36 Zt qt
end Go.Proofs.YtbajncpfmemdgaaGreatDoor
end
section
namespace Go.Proofs.YtbajncpfmemdgaaGreatDoor
open Go Go.Ev
def VY [Env] (vs:List V) (σ:St) (k:ah):Prop:=
 ∃l:List aa,vs=[ae aa.enc 3 l]∧k (.int .i64 0) σ∧(l.length≤20→k (.int .i64 1) σ)
def VZ [Env]:=kS 27 VY VX
end Go.Proofs.YtbajncpfmemdgaaGreatDoor
end
section
namespace Go.Proofs.YtbajncpfmemdgaaGreatDoor
open Go Go.Ev Go.IntWalk
theorem wO {α:Type} (q:α→Bool) (f:Nat→α):∀n,bj (fun i=>q (f i)) f n=((List.range n).map f).filter q
 | 0=>rfl
 | n+1=>by
  show(if q (f n)=true then bj (fun i=>q (f i)) f n++[f n] else bj (fun i=>q (f i)) f n)=_
  rw[List.range_succ,List.map_append,List.filter_append,wO q f n]
  by_cases h:q (f n)=true
  ·rw[if_pos h];simp [h]
  ·rw[if_neg h];simp [h]
theorem iW (l:List aa) (S:List (List UInt8)):cZ l S l.length=l.filter fun t=>decide (eT S t.f0<0):=by
 have:=wO (fun t:aa=>decide (eT S t.f0<0)) (fun i=>l.getD i default) l.length
 rw[uk] at this
 exact this
theorem iu {S:List (List UInt8)} {s:List UInt8}:eT S s<0↔s∉S:=by
 unfold eT
 rcases hG s (fun i=>S.getD i default) S.length with ⟨h1,h2⟩ | ⟨i,h1,h2,h3,_⟩
 ·rw[h1]
  refine⟨fun _ hm=>?_,fun _=>by decide⟩
  obtain⟨i,hi,e⟩:=List.mem_iff_getElem.1 hm
  exact h2 i hi (by rw[cI hi];exact e)
 ·rw[h1]
  refine⟨fun h=>by omega,fun h=>absurd ?_ h⟩
  rw[←h3,cI h2];exact List.getElem_mem h2
theorem AV {l:List aa} {s:List UInt8}:aW l s<0↔∀t∈l,t.f0≠s:=by
 unfold aW
 rcases hG s (fun i=>(l.getD i default).f0) l.length with ⟨h1,h2⟩ | ⟨i,h1,h2,h3,_⟩
 ·rw[h1]
  refine⟨fun _ t hm=>?_,fun _=>by decide⟩
  obtain⟨i,hi,e⟩:=List.mem_iff_getElem.1 hm
  have:=h2 i hi
  rw[cI hi,e] at this;exact this
 ·rw[h1]
  refine⟨fun h=>by omega,fun h=>absurd ?_ (h l[i] (List.getElem_mem h2))⟩
  rw[←h3,cI h2]
theorem DA {q:Nat→List UInt8} {n:Nat} (h:∀i,i<n→0<i→(Op.bytesLess (q i) (q (i-1))||q i==q (i-1))=false):∀j i,i<j→j<n→q i<q j
 | 0,i,hi,_=>absurd hi (Nat.not_lt_zero i)
 | j+1,i,hi,hj=>by
  have h1:=h (j+1) hj (Nat.succ_pos j)
  rw[Nat.add_sub_cancel,Bool.or_eq_false_iff,bytesLess_eq] at h1
  have h2:q j<q (j+1):=VF (of_decide_eq_false h1.1) fun e=>by
   have:=h1.2;rw[←e] at this;simp at this
  by_cases e:i=j
  ·subst e;exact h2
  ·exact List.lt_trans (DA h j i (by omega) (by omega)) h2
theorem N8 {q:Nat→List UInt8} {n:Nat} (h:∀i j,i<j→j<n→q i<q j):∀i,i<n→0<i→(Op.bytesLess (q i) (q (i-1))||q i==q (i-1))=false:=fun i hi h0=>by
 have h1:=h (i-1) i (by omega) hi
 rw[Bool.or_eq_false_iff,bytesLess_eq]
 refine⟨decide_eq_false fun h2=>List.lt_irrefl _ (List.lt_trans h1 h2),?_⟩
 cases e:q i==q (i-1) with
 | false=>rfl
 | true=>rw[beq_iff_eq.1 e] at h1;exact absurd h1 (List.lt_irrefl _)
theorem gg {l:List aa}:cn l=0↔l.length≤16∧(∀t∈l,bu t=0)∧fk fp l:=by
 constructor
 ·intro h
  obtain⟨h1,h2⟩:=cJ h
  refine⟨h1,h2,?_⟩
  have h3:∀j,j<l.length→bu (l.getD j default)=0:=fun j hj=>h2 _ (by rw[cI hj];exact List.getElem_mem hj)
  rw[nd (by omega) h3] at h
  have h4:vB (nameAt l) l.length=true:=Classical.byContradiction fun g=>by rw[if_neg g] at h;cases h
  have h5:=DA ((nz _ _).1 h4)
  refine List.pairwise_iff_getElem.2 fun i j hi hj jH=>?_
  have:=h5 j i jH hj
  unfold nameAt at this
  rwa [cI hi,cI hj] at this
 ·rintro⟨h1,h2,h3⟩
  rw[nd (by omega) fun j hj=>h2 _ (by rw[cI hj];exact List.getElem_mem hj),if_pos]
  refine(nz _ _).2 (N8 fun i j jH hj=>?_)
  unfold nameAt
  rw[cI hj,cI (by omega:i<l.length)]
  exact List.pairwise_iff_getElem.1 h3 i j (by omega) hj jH
theorem fk.apart {α:Type} {nm:α→List UInt8} {l:List α} (h:fk nm l):ma nm l:=List.Pairwise.imp (fun h e=>by rw[e] at h;exact List.lt_irrefl _ h) h
theorem N9 {c:ak} {t u:aa} (hr:¬(c.f0<1∨6<c.f0)) (h:kE c t u=0):ma fp (kT c t):=by
 rcases(show c.f0=1∨c.f0=2∨c.f0=3∨c.f0=4∨c.f0=5∨c.f0=6 by omega) with h0 | h0 | h0 | h0 | h0 | h0
 ·rw[xo h0];exact List.pairwise_singleton _ _
 ·rw[I1 h0];exact List.pairwise_singleton _ _
 ·rw[I2 h0];exact List.pairwise_singleton _ _
 ·rw[I4 h0];exact List.pairwise_singleton _ _
 ·rw[I5 h0];rw[Dm h0] at h
  refine List.pairwise_cons.2 ⟨fun b hb=>?_,List.pairwise_singleton _ _⟩
  rw[List.mem_singleton.1 hb]
  intro e
  have e:c.f3=c.f4:=e
  unfold mJ at h
  by_cases g1:aD c.f3≠0
  ·rw[if_pos g1] at h;exact g1 h
  ·by_cases g2:aD c.f4≠0
   ·rw[if_neg g1,if_pos g2] at h;exact g2 h
   ·rw[if_neg g1,if_neg g2,if_pos e] at h;cases h
 ·rw[I6 h0];exact List.pairwise_singleton _ _
theorem rn {l:List aa} {c:ak} (h:ct l c=0):bY l c=kT c (aX l c.f1):=if_pos h
theorem pe (l:List aa) (S:List (List UInt8)):(cZ l S l.length).Sublist l:=by rw[iW];exact List.filter_sublist
theorem nE {l:List aa} {c:ak} (h:ct l c=0):fk fp (cZ l (aK c) l.length)∧ma fp (j8 l c)∧0<(bY l c).length:=by
 obtain⟨h1,h2,h3,h4⟩:=iV h
 obtain⟨g1,g2,g3⟩:=gg.1 h1
 have hk:fk fp (cZ l (aK c) l.length):=List.Pairwise.sublist (pe l _) g3
 refine⟨hk,?_,?_⟩
 ·refine List.pairwise_append.2 ⟨hk.apart,by rw[rn h];exact N9 h2 h4,fun a ha b hb e=>?_⟩
  have e:a.f0=b.f0:=e
  rw[iW,List.mem_filter] at ha
  obtain⟨ha1,GR⟩:=ha
  have GR:=of_decide_eq_true GR
  rw[jr h1 h2 h3 h4] at h
  rw[rn (by rw[jr h1 h2 h3 h4];exact h)] at hb
  obtain⟨i,hi,e2⟩:=List.mem_iff_getElem.1 hb
  have:=(ca (fun i=>if 0≤aW l ((kT c (aX l c.f1)).getD i default).f0∧eT (aK c) ((kT c (aX l c.f1)).getD i default).f0<0 then(12:Int) else 0) _).1 h i hi
  rw[cI hi,e2,←e] at this
  by_cases g:aW l a.f0<0
  ·exact AV.1 g a ha1 rfl
  ·rw[if_pos ⟨by omega,GR⟩] at this;cases this
 ·rw[rn h]
  unfold kT Da
  repeat' split
  all_goals exact Nat.zero_lt_succ _
theorem Oa {l:List aa} {c:ak} (h:ct l c=0):gf fp (j8 l c)=xw l c:=N7 fp (nE h).1 (nE h).2.1
theorem pU (l:List aa) (c:ak):(xw l c).Perm (j8 l c):=qq fp _ _
theorem Eh {l:List aa} {c:ak} (h:ct l c=0):fk fp (xw l c):=nL fp (nE h).1 (nE h).2.1
end Go.Proofs.YtbajncpfmemdgaaGreatDoor
end
section
namespace Go.Proofs.YtbajncpfmemdgaaGreatDoor
open Go.Shelf
def pf:Go.Shelf.Ren:=⟨fun | 6=>77 | 15=>131 | 14=>130 | 28=>173 | 29=>174 | 20=>165 | 21=>166 | 22=>167 | 23=>168 | 24=>169 | 25=>170 | 26=>171 | 27=>172 | 46=>213 | 47=>214 | 48=>215 | 49=>216 | 50=>217 | 57=>246 | n=>n,fun | 22=>42 | 24=>51 | 25=>113 | 3=>3 | 39=>175 | 0=>0 | 53=>213 | 55=>44 | 4=>4 | 46=>207 | 45=>206 | 50=>131 | 5=>5 | 9=>9 | 66=>252 | 70=>256 | 76=>289 | 77=>36 | n=>n,fun | n=>n⟩
theorem Ob:Go.Proofs.SlLaysF0.n6 Tryz.prog pf:={
 mixed:=by kernel_rfl
 f6:=⟨Tryz.f77.name,by decide,Tryz.func77.trans (congrArg some (by kernel_rfl))⟩
 f14:=⟨Tryz.f130.name,by decide,Tryz.func130.trans (congrArg some (by kernel_rfl))⟩
 f15:=Tryz.func131.trans (congrArg some (by kernel_rfl))
 f20:=⟨Tryz.f165.name,by decide,Tryz.func165.trans (congrArg some (by kernel_rfl))⟩
 f21:=⟨Tryz.f166.name,by decide,Tryz.func166.trans (congrArg some (by kernel_rfl))⟩
 f22:=⟨Tryz.f167.name,by decide,Tryz.func167.trans (congrArg some (by kernel_rfl))⟩
 f23:=⟨Tryz.f168.name,by decide,Tryz.func168.trans (congrArg some (by kernel_rfl))⟩
 f24:=⟨Tryz.f169.name,by decide,Tryz.func169.trans (congrArg some (by kernel_rfl))⟩
 f25:=⟨Tryz.f170.name,by decide,Tryz.func170.trans (congrArg some (by kernel_rfl))⟩
 f26:=⟨Tryz.f171.name,by decide,Tryz.func171.trans (congrArg some (by kernel_rfl))⟩
 f27:=⟨Tryz.f172.name,by decide,Tryz.func172.trans (congrArg some (by kernel_rfl))⟩
 f28:=Tryz.func173.trans (congrArg some (by kernel_rfl))
 f29:=Tryz.func174.trans (congrArg some (by kernel_rfl))
 f46:=⟨Tryz.f213.name,by decide,Tryz.func213.trans (congrArg some (by kernel_rfl))⟩
 f47:=Tryz.func214.trans (congrArg some (by kernel_rfl))
 f48:=Tryz.func215.trans (congrArg some (by kernel_rfl))
 f49:=⟨Tryz.f216.name,by decide,Tryz.func216.trans (congrArg some (by kernel_rfl))⟩
 f50:=⟨Tryz.f217.name,by decide,Tryz.func217.trans (congrArg some (by kernel_rfl))⟩
 f57:=⟨Tryz.f246.name,by decide,Tryz.func246.trans (congrArg some (by kernel_rfl))⟩
 t0:=Tryz.underlying0
 a0:=Tryz.isAgg0
 z0:=Tryz.sizeOf0
 v0:=Tryz.zeroValue0
 t3:=Tryz.underlying3
 a3:=Tryz.isAgg3
 z3:=Tryz.sizeOf3
 v3:=Tryz.zeroValue3
 t4:=Tryz.underlying4
 a4:=Tryz.isAgg4
 z4:=Tryz.sizeOf4
 v4:=Tryz.zeroValue4
 t5:=Tryz.underlying5
 a5:=Tryz.isAgg5
 z5:=Tryz.sizeOf5
 v5:=Tryz.zeroValue5
 t9:=Tryz.underlying9
 a9:=Tryz.isAgg9
 z9:=Tryz.sizeOf9
 v9:=Tryz.zeroValue9
 t22:=Tryz.underlying42
 a22:=Tryz.isAgg42
 z22:=Tryz.sizeOf42
 v22:=Tryz.zeroValue42
 t25:=Tryz.underlying113
 a25:=Tryz.isAgg113
 z25:=Tryz.sizeOf113
 v25:=Tryz.zeroValue113
 t39:=Tryz.underlying175
 a39:=Tryz.isAgg175
 z39:=Tryz.sizeOf175
 v39:=Tryz.zeroValue175
 t45:=Tryz.underlying206
 a45:=Tryz.isAgg206
 z45:=Tryz.sizeOf206
 v45:=Tryz.zeroValue206
 t46:=Tryz.underlying207
 a46:=Tryz.isAgg207
 z46:=Tryz.sizeOf207
 v46:=Tryz.zeroValue207
 t50:=Tryz.underlying131
 a50:=Tryz.isAgg131
 z50:=Tryz.sizeOf131
 v50:=Tryz.zeroValue131
 t53:=Tryz.underlying213
 a53:=Tryz.isAgg213
 z53:=Tryz.sizeOf213
 v53:=Tryz.zeroValue213
 t55:=Tryz.underlying44
 a55:=Tryz.isAgg44
 z55:=Tryz.sizeOf44
 v55:=Tryz.zeroValue44
 t66:=Tryz.underlying252
 a66:=Tryz.isAgg252
 z66:=Tryz.sizeOf252
 v66:=Tryz.zeroValue252
 t70:=Tryz.underlying256
 a70:=Tryz.isAgg256
 z70:=Tryz.sizeOf256
 v70:=Tryz.zeroValue256
 t76:=Tryz.underlying289
 a76:=Tryz.isAgg289
 z76:=Tryz.sizeOf289
 v76:=Tryz.zeroValue289
 t77:=Tryz.underlying36
 a77:=Tryz.isAgg36
 z77:=Tryz.sizeOf36
 v77:=Tryz.zeroValue36}
open Go Go.RowKit Go.Lib
set_option maxHeartbeats 1000000 in
theorem V0 (x:ByteArray) (w:World):Calls Tryz.prog 132 #[.string x] w fun e w'=>e=.returned (.bool false)∧w'=w:=by
 go_enter Tryz.func132,Tryz.ntmps132
 go_wp2
 go_ret
 exact⟨by simp,rfl⟩
set_option maxHeartbeats 1000000 in
theorem XJ (s t:List UInt8) (w:World):Calls Tryz.prog 79 #[.string ⟨⟨s⟩⟩,.string ⟨⟨t⟩⟩] w fun e w'=>e=.returned (.int .i64 (Go.Ev.jj s t))∧w'=w:=by
 go_enter Tryz.func79,Tryz.ntmps79
 go_wp2_with (go_at_call 132;refine(V0 _ _).mono ?_;rintro e w' ⟨rfl,hw⟩;rw[hw])
 all_goals (go_ret;refine⟨?_,rfl⟩;unfold Go.Ev.jj)
 all_goals simp_all
set_option maxHeartbeats 1000000 in
theorem XK (s t:List UInt8) (a b c d:Value) (W:World) (_ha:a.oneCell'=true) (_hb:b.oneCell'=true) (_hc:c.oneCell'=true) (_hd:d.oneCell'=true):Calls Tryz.prog 78 #[.agg #[.string ⟨⟨s⟩⟩,a,b],.agg #[.string ⟨⟨t⟩⟩,c,d]] W fun e w'=>e=.returned (.int .i64 (Go.Ev.jj s t))∧∃q os,w'=Sort.grow (W.drewN q) os:=by
 have V1:=XJ s t
 generalize Go.Ev.jj s t=r at V1⊢
 go_enter Tryz.func78,Tryz.ntmps78
 go_wp2_with (go_at_call 79;refine(V1 _).mono ?_;rintro e w' ⟨rfl,rfl⟩)
 go_ret
 exact⟨rfl,0,_,by rw[Sort.alloc_eq_grow,Sort.alloc_eq_grow,Sort.grow_grow];rfl⟩
theorem XL:∀w,(isAgg (pf.t 24)).run Tryz.prog w=.ok true w:=fun w=>Tryz.isAgg51 w
theorem XM:∀w,(Go.sizeOf (pf.t 24)).run Tryz.prog w=.ok 3 w:=fun w=>Tryz.sizeOf51 w
section
variable [Go.Ev.Env] {σ:Go.Ev.St}
theorem V2 {b n:Nat} {f:Nat→Go.Ev.V} {qg:Go.Ev.V} {q q':Go.Ev.bV} {nm:Nat→List UInt8} (hb:σ.heap.get b=some q) (Lh:∀(ρ:Go.Ev.Ren) (x:Value),Go.Ev.aq ρ qg x→Go.Ev.aq ρ (.own b n 3) x)
  (hq:∀(ρ:Go.Ev.Ren) (w:World) (l:Go.Ev.Loc),Go.Ev.cC ρ w l q→Go.Ev.cC ρ w l (.row n f 3 false)) (iA:∀(ρ:Go.Ev.Ren) (w:World) (l:Go.Ev.Loc),Go.Ev.cC ρ w l (.row n (fun i=>f (Go.Ev.fj n nm)[i]!) 3 false)→Go.Ev.cC ρ w l q')
  (hn:0<n) (nP:n<4611686018427387904) (hf:∀i,i<n→∃u v,(f i).cells=[.str (nm i),u,v]∧u.scalar=true∧v.scalar=true):
  Go.Ev.ag Tryz.prog 77 [qg,.func (.func 78) [] []] (fun v τ=>v=.tuple []∧τ=σ.set b q') σ:=
 Go.Ev.ag.XE hb Lh hq iA hn nP hf zW (enters_of Tryz.func77 (by kernel_rfl) rfl) XK fun enc cf cP off cap d w h3 h1 hO hC hH hblk bd=>
  AnyQ.slices_SortFunc_eq Ob 3 XL XM enc h3 h1 cf hO 78 #[] cP off cap d w (enters_of Tryz.func78 (by kernel_rfl) rfl) hC hH hblk bd
end
end Go.Proofs.YtbajncpfmemdgaaGreatDoor
end
section
namespace Go.Proofs.YtbajncpfmemdgaaGreatDoor
open Go Go.Ev Go.IntWalk
theorem F36:bU Tryz.prog 36 Tryz.f36:=.of (by kernel_rfl) (by kernel_rfl)
noncomputable def Jo (es:List aa):List V:=ar (es.map aa.enc)
theorem Oc (l:List aa):∀v∈l.map aa.enc,v.cells.length=3:=fun v hv=>by
 obtain⟨x,_,rfl⟩:=List.mem_map.1 hv;rfl
theorem DB {l:List aa} {i:Nat} (hi:i<l.length) {k:Nat} (hk:k<3):(Jo l)[i*3+k]? =(aa.cells (l.getD i default))[k]? :=by
 unfold Jo
 rw[fT (Oc l) (i:=i) (u:=aa.enc (l.getD i default)) (by rw[List.getElem?_map,List.getD_eq_getElem?_getD,List.getElem?_eq_getElem hi];rfl) hk];rfl
theorem Jp {N:Nat} {es:List V} {i:Nat} {v:V} (h:cellOf N [] (an es .leaf 0) i=some v):i<N∧es[i]? =some v:=by
 have hi:=tf h
 refine⟨hi,?_⟩
 unfold cellOf at h
 rw[show Nat.blt i N=true by rw[Nat.blt_eq];exact hi] at h
 dsimp only at h
 rw[jQ] at h
 by_cases e:0≤i∧i<0+es.length
 ·rw[if_pos e,Nat.sub_zero,List.getElem?_eq_getElem (by omega)] at h
  rw[List.getElem?_eq_getElem (by omega)];exact h
 ·rw[if_neg e,Trie.eK] at h
  exact nomatch (show(none:Option V)=some v from h)
section
variable [Env] {ρ:Go.Ev.Ren} {w:World} {l:Go.Ev.Loc}
theorem Li {n esz:Nat} {f g:Nat→V} {p:Bool} (h:cC ρ w l (.row n f esz p)) (e:∀i,i<n→f i=g i):cC ρ w l (.row n g esz false):=by
 cases h with
 | row hs hn hu hv hf hp=>exact .row hs hn (fun i hi=>by rw[←e i hi];exact hu i hi) (fun i hi=>by rw[←e i hi];exact hv i hi) hf fun h=>by cases h
theorem uq {es:List aa} {p:Bool} (h:cC ρ w l (.cells (es.length*3) [] (an (Jo es) .leaf 0) p false)):cC ρ w l (.row es.length (fun i=>aa.enc (es.getD i default)) 3 false):=by
 cases h with
 | cells hs hn hv hf hp=>
  refine .row hs hn (fun i hi=>rfl) (fun i hi k v hk=>?_) (hf rfl) fun h=>by cases h
  have Zs:k<3:=(List.getElem?_eq_some_iff.1 hk).1
  exact hv _ _ (yL (by rw[DB hi Zs];exact hk) (by omega))
theorem ur {es:List aa} {p:Bool} (h:cC ρ w l (.row es.length (fun i=>aa.enc (es.getD i default)) 3 p)):cC ρ w l (.cells (es.length*3) [] (an (Jo es) .leaf 0) false false):=by
 cases h with
 | row hs hn hu hv hf hp=>
  refine .cells hs hn (fun i v hi=>?_) (fun _=>hf) fun h=>by cases h
  obtain⟨h1,h2⟩:=Jp hi
  have h3:i/3<es.length:=by omega
  have h4:i%3<3:=Nat.mod_lt _ (by decide)
  have e:i/3*3+i%3=i:=by omega
  have h5:=DB h3 h4
  rw[e,h2] at h5
  obtain⟨x,g1,g2⟩:=hv _ h3 _ _ h5.symm
  rw[e] at g1
  exact⟨x,g1,g2⟩
theorem AW {b n:Nat} {x:Value} (hn:n≠0) (h:aq ρ (.slice b 0 n n false 3) x):aq ρ (.own b n 3) x:=by
 cases h with
 | slice h hex dy hN nP=>
  obtain⟨h1,h2⟩:=dy rfl
  rcases h2 with h2 | h2
  ·subst h2;exact .own h h1 hN
  ·exact absurd h2.1 hn
theorem V3 {P:Program} {f:FuncId} {vs:List V} {k:ah} {σ:St} (h:ag P f vs (fun v τ=>∃u,(∀(ρ:Go.Ev.Ren) (x:Value),aq ρ v x→aq ρ u x)∧k u τ) σ):ag P f vs k σ:=by
 refine⟨⟨?_,fun ρ w vs' hr hv=>?_⟩⟩
 ·obtain⟨⟨o,τ⟩,hx⟩:=h.h.1
  cases o with
  | val v=>obtain⟨u,_,hk⟩:=hx;exact⟨(.val u,τ),hk⟩
  | exit e a=>exact hx.elim
 ·obtain⟨g1,g2⟩:=cm.at h.h ρ w vs' hr hv
  refine⟨g1,g2.mono fun e w' hx=>?_⟩
  obtain⟨v,τ,ρ',v',h1,h2,h3,h4⟩:=hx
  obtain⟨u,g,hk⟩:=h1
  exact⟨u,τ,ρ',v',hk,h2,g _ _ h3,h4⟩
theorem Rm {T:List aa} {x:Value} (h:aq ρ (ae aa.enc 3 T) x):aq ρ (.bk (T.map aa.enc) 3 false) x:=by
 cases h with
 | arr hn h=>rw[lY aa.enc T] at h;exact h
end
theorem V4 {L:List aa} (h:L.length=2):∃u w,L=[u,w]:=by
 match L,h with
 | [u,w],_=>exact⟨u,w,rfl⟩
section
variable [Env] [aC] {vs:List V} {σ:St} {k:ah}
omit [aC] in
theorem uu {b n:Nat} {qg:V} {q:bV} {L M:List aa} {q':bV} (hM:M=gf fp L) (hb:σ.heap.get b=some q) (Lh:∀(ρ:Go.Ev.Ren) (x:Value),aq ρ qg x→aq ρ (.own b n 3) x) (hL:n=L.length)
  (hq:∀(ρ:Go.Ev.Ren) (w:World) (l:Go.Ev.Loc),cC ρ w l q→cC ρ w l (.row n (fun i=>aa.enc (L.getD i default)) 3 false)) (iA:∀(ρ:Go.Ev.Ren) (w:World) (l:Go.Ev.Loc),cC ρ w l (.row n (fun i=>aa.enc (M.getD i default)) 3 false)→cC ρ w l q')
  (h0:0<n) (h1:n≤1000) (hk:k (.tuple []) (σ.set b q')):ag Tryz.prog 77 [qg,.func (.func 78) [] []] k σ:=by
 subst hL hM
 refine(V2 (nm:=fun i=>fp (L.getD i default)) hb Lh hq (fun ρ w l h=>iA ρ w l (Li h fun i hi=>?_)) h0 (by omega) fun i hi=>⟨_,_,rfl,rfl,rfl⟩).mono fun v τ hx=>?_
 ·rw[um fp L hi]
 ·obtain⟨rfl,rfl⟩:=hx;exact hk
omit [aC] in
theorem V5 (h:VG vs σ k):ag Tryz.prog 77 vs k σ:=by
 unfold VG at h
 split at h
 ·rename_i b n
  split at h
  ·rename_i m f p hb
   obtain⟨q,⟨h1,h2⟩,rfl,⟨h3,h4⟩,hk⟩:=h
   exact uu (L:=q) rfl hb (fun _ _ h=>h) h1 (fun ρ w l h=>Li h h2) (fun _ _ _ h=>h) (by omega) (by omega) hk
  ·exact h.elim
 ·rename_i b
  split at h
  ·rename_i t p hb
   obtain⟨x,rfl,hk⟩:=h
   exact uu (L:=[x]) (M:=[x]) (List.perm_singleton.1 (jW fp [x])).symm hb (fun _ _ h=>AW (by decide) h) rfl (fun ρ w l h=>uq (es:=[x]) h) (fun _ _ _ h=>ur (es:=[x]) h) (by decide) (by decide) hk
  ·exact h.elim
 ·rename_i b
  split at h
  ·rename_i t p hb
   obtain⟨x,y,rfl,hk⟩:=h
   obtain⟨u,w,e⟩:=V4 (nC fp [x,y])
   exact uu (L:=[x,y]) (M:=[u,w]) e.symm hb (fun _ _ h=>AW (by decide) h) rfl (fun ρ w l h=>uq (es:=[x,y]) h) (fun _ _ _ h=>ur (es:=[u,w]) h) (by decide) (by decide) (hk u w e)
  ·exact h.elim
 ·exact h.elim
theorem Ro:∀ {f:FuncId} {vs:List V} {σ:St} {k:ah},VH f vs σ k→ag Tryz.prog f vs k σ:=fun h=>aP V5 Rl h
omit [aC] in
theorem GS {ρ:Go.Ev.Ren} {T:List aa} {e:Int} {x:Value} (h:aq ρ (.tuple [ae aa.enc 3 T,.int .i64 e]) x):aq ρ (.tuple [.bk (T.map aa.enc) 3 false,.int .i64 e]) x:=by
 cases h with
 | tuple h=>cases h with
  | cons h1 h2=>exact .tuple (.cons (Rm h1) h2)
theorem Rp (h:VI vs σ k):ag Tryz.prog 30 vs k σ:=by
 obtain⟨l,c,rfl,hp,h1,h2⟩:=h
 refine V3 (Dw ⟨l,c,rfl,hp,?_⟩)
 by_cases e:ct l c=0
 ·obtain⟨h3,h4⟩:=h2 e
  have hl:=(ui l c).1
  have h0:=(nE e).2.2
  match hT:bY l c,hl,h0 with
  | [x],_,_=>rw[e];exact⟨_,fun ρ y h=>GS (T:=[x]) h,h3 x hT⟩
  | [x,y],_,_=>rw[e];exact⟨_,fun ρ z h=>GS (T:=[x,y]) h,h4 x y hT⟩
 ·rw[show bY l c=[] from if_neg e]
  exact⟨_,fun ρ y h=>h,h1 e⟩
theorem GU:∀ {f:FuncId} {vs:List V} {σ:St} {k:ah},qt f vs σ k→ag Tryz.prog f vs k σ:=fun h=>aP Rp Ro h
end
end Go.Proofs.YtbajncpfmemdgaaGreatDoor
end
section
namespace Go.Proofs.YtbajncpfmemdgaaGreatDoor
open Go Go.Ev Go.IntWalk
theorem vJ {l:List aa} {S:List (List UInt8)} {i:Nat} (h:eT S (l.getD i default).f0<0):cZ l S (i+1)=cZ l S i++[l.getD i default]:=vE (decide_eq_true h)
theorem sG {l:List aa} {S:List (List UInt8)} {i:Nat} (h:¬eT S (l.getD i default).f0<0):cZ l S (i+1)=cZ l S i:=xk (by rw[decide_eq_false h];exact Bool.false_ne_true)
theorem xx (l:List aa) (S:List (List UInt8)) (n:Nat):(cZ l S n).length≤n:=kU _ _ _
theorem cN.cat {n:Nat} {f:Nat→V} {K T:List aa} (h:cN n f K):cN (n+T.length) (dY n f (kD (T.map aa.enc))) (K++T):=by
 obtain⟨rfl,h2⟩:=h
 refine⟨by simp,fun i hi=>?_⟩
 rw[ou]
 by_cases e:i<K.length
 ·rw[if_pos e,h2 i e]
  simp [List.getD_eq_getElem?_getD,List.getElem?_append_left e]
 ·rw[if_neg e]
  have hj:i-K.length<T.length:=by omega
  have:nth (T.map aa.enc) (i-K.length)=some (aa.enc (T.getD (i-K.length) default)):=by
   rw[dA,List.getElem?_map,List.getD_eq_getElem?_getD,List.getElem?_eq_getElem hj];rfl
  unfold kD
  rw[this]
  simp [List.getD_eq_getElem?_getD,List.getElem?_append_right (Nat.le_of_not_lt e)]
def Od (T:List aa) (v:V):Prop:=(∃x,T=[x]∧v=.bk [aa.enc x] 3 false)∨∃x y,T=[x,y]∧v=.bk [aa.enc x,aa.enc y] 3 false
def GV (l:List aa) (c:ak):Nat→List SV→Prop
 | 0,ss=>ct l c=0∧∃(i:Nat) (tv:V),i≤l.length∧Od (bY l c) tv∧((cZ l (aK c) i=[]∧ss=[.val tv,.val (ae V.str 1 (aK c)),.val .ai,.val (ae aa.enc 3 l),.val (.int .i64 ((l.length:Nat):Int)),.val (.int .i64 (i:Int))])∨
   ∃n f,0<n∧cN n f (cZ l (aK c) i)∧ss=[.val tv,.val (ae V.str 1 (aK c)),.row n f 3,.val (ae aa.enc 3 l),.val (.int .i64 ((l.length:Nat):Int)),.val (.int .i64 (i:Int))])
 | _,_=>False
theorem zX {l:List aa} {c:ak} (h:ct l c=0):jk l c=if 16<(j8 l c).length then 2 else 0:=if_neg fun g=>g h
theorem xy {l:List aa} {c:ak} (h:ct l c≠0):jk l c=ct l c:=if_pos h
section
variable [Env]
theorem Lj (es:List aa):Go.Ev.Clean (.bk (es.map aa.enc) 3 false):=Go.Ev.Clean.bk fun v hv u hu=>by
 obtain⟨x,_,rfl⟩:=List.mem_map.1 hv
 exact aa.clean x u hu
theorem Od.clean {T:List aa} {v:V} (h:Od T v):Go.Ev.Clean v:=by
 rcases h with ⟨x,_,rfl⟩ | ⟨x,y,_,rfl⟩
 ·exact Lj [x]
 ·exact Lj [x,y]
theorem GV.clean {l:List aa} {c:ak}:∀k ss,GV l c k ss→∀s∈ss,s.clean
 | 0,_,⟨_,_,_,_,ht,.inl ⟨_,e⟩⟩=>by subst e;exact aw ht.clean (aw (et _) (aw Go.Ev.Clean.ai (aw (bK l) (aE (aE bM)))))
 | 0,_,⟨_,_,_,_,ht,.inr ⟨_,_,_,hr,e⟩⟩=>by subst e;exact aw ht.clean (aw (et _) (aw hr.cl (aw (bK l) (aE (aE bM)))))
 | n+1,_,h=>h.elim
theorem DC {τ:St} {b m:Nat} {ex:Bool} {x y:aa} (h:τ.cells b 0 (2*3)=some (aa.cells x++aa.cells y)):dQ τ (.slice b 0 2 m ex 3) (ae aa.enc 3 [x,y]):=
 .lT (.slice (es:=[aa.enc x,aa.enc y]) h (.cons (.str _) (.cons (.int _ _) (.cons (.clean (fg x.f2)) (.cons (.str _) (.cons (.int _ _) (.cons (.clean (fg y.f2)) .nil)))))) (fun v hv=>by
  simp only[List.mem_cons,List.not_mem_nil,or_false] at hv
  rcases hv with rfl | rfl<;>rfl) rfl)
variable {σ:St} {k:ah}
theorem GW {l:List aa} {c:ak} (hk:k (.tuple [ae aa.enc 3 (dS l c),.int .i64 (jk l c)]) σ) {e:Int} (h:jk l c=e) (h0:e≠0) {τ:St}:bl σ k (.tuple [.ai,.int .i64 e]) τ:=by
 have e':dS l c=[]:=if_neg (by rw[h];exact h0)
 rw[e',h] at hk
 exact bl.rk Ld hk
omit [Env] in
theorem Lk {l:List aa} {c:ak} (hk:k (.tuple [ae aa.enc 3 (dS l c),.int .i64 (jk l c)]) σ) (h:ct l c=0) (h1:¬ 16<(j8 l c).length):k (.tuple [ae aa.enc 3 (gf fp (j8 l c)),.int .i64 0]) σ:=by
 have e:jk l c=0:=(zX h).trans (if_neg h1)
 have e':dS l c=xw l c:=if_pos e
 rw[e,e',←Oa h] at hk
 exact hk
variable [aC] {vs:List V}
structure pg (l:List aa) (c:ak) (i:Nat) (σ:St) (k:ah):Prop where
 h0:ct l c=0
 hi:i≤l.length
 hl:l.length≤16
 hS:(aK c).length≤2
 Jq:∀i,i<l.length→0<(l.getD i default).f2.length∧(l.getD i default).f2.length≤1000
 hk:k (.tuple [ae aa.enc 3 (dS l c),.int .i64 (jk l c)]) σ
omit [Env] [aC] in
theorem uv {l:List aa} {i:Nat} (hi:i<l.length):l.length-((i:Int)+1).toNat<l.length-(i:Int).toNat:=by omega
omit [Env] [aC] in
theorem Jr {S:List (List UInt8)} {s:List UInt8} (h:(!(decide (0≤eT S s)))=true):eT S s<0:=by
 rw[Bool.not_eq_true'] at h;exact Int.not_le.1 (of_decide_eq_false h)
omit [Env] [aC] in
theorem Bv {S:List (List UInt8)} {s:List UInt8} (h:(!(decide (0≤eT S s)))=false):¬eT S s<0:=by
 rw[Bool.not_eq_false'] at h;exact Int.not_lt.2 (of_decide_eq_true h)
omit [Env] [aC] in
theorem pg.rep {l:List aa} {c:ak} {i n:Nat} {f:Nat→V} {T:List aa} (_h:pg l c i σ k) (hT:bY l c=T) (hi:¬(i:Int)<((l.length:Nat):Int)) (hr:cN n f (cZ l (aK c) i)):cN (n+T.length) (dY n f (kD (T.map aa.enc))) (j8 l c):=by
 obtain rfl:i=l.length:=by have:=_h.hi;omega
 subst hT;exact hr.cat
omit [aC] in
theorem pg.fin {l:List aa} {c:ak} {i n:Nat} {f:Nat→V} {T:List aa} {τ:St} {p:Bool} (h:pg l c i σ k) (hT:bY l c=T) (hi:¬(i:Int)<((l.length:Nat):Int)) (hr:cN n f (cZ l (aK c) i)) (yJ:¬((n+T.length:Nat):Int)>16) (hb:τ.heap.get 1=some (.row (n+T.length) (fun i=>aa.enc ((gf fp (j8 l c)).getD i default)) 3 p)):bl σ k (.tuple [.own 1 (n+T.length) 3,.int .i64 0]) τ:=by
 have hu:=(h.rep hT hi hr).1
 exact bl.rk (.cons (fV hb ⟨by rw[nC,hu],fun _ _=>rfl⟩) (.cons (.int _ _) .nil)) (Lk h.hk h.h0 (by rw[←hu];omega))
omit [aC] in
theorem pg.Zu {l:List aa} {c:ak} {i n:Nat} {f:Nat→V} {T:List aa} {τ:St} (h:pg l c i σ k) (hT:bY l c=T) (hi:¬(i:Int)<((l.length:Nat):Int)) (hr:cN n f (cZ l (aK c) i)) (yJ:((n+T.length:Nat):Int)>16):bl σ k (.tuple [.ai,.int .i64 2]) τ:=by
 have hu:=(h.rep hT hi hr).1
 exact GW h.hk ((zX h.h0).trans (if_pos (by rw[←hu];omega))) (by decide)
omit [Env] [aC] in
theorem pg.none {l:List aa} {c:ak} {i:Nat} {T:List aa} (h:pg l c i σ k) (hT:bY l c=T) (h2:T.length≤2) (hi:¬(i:Int)<((l.length:Nat):Int)) (he:cZ l (aK c) i=[]):k (.tuple [ae aa.enc 3 (gf fp T),.int .i64 0]) σ:=by
 obtain rfl:i=l.length:=by have:=h.hi;omega
 subst hT
 have hu:j8 l c=bY l c:=by unfold j8;rw[he];rfl
 have:=Lk h.hk h.h0 (by rw[hu];omega)
 rwa [hu] at this
omit [aC] in
theorem XN {l:List aa} {c:ak} {i:Nat} {x:aa} {ss:List SV} (R:pg l c i σ k) (hx:bY l c=[x]) (hI:(cZ l (aK c) i=[]∧ss=[.val (.bk [aa.enc x] 3 false),.val (ae V.str 1 (aK c)),.val .ai,.val (ae aa.enc 3 l),.val (.int .i64 ((l.length:Nat):Int)),.val (.int .i64 (i:Int))])∨
   ∃n f,0<n∧cN n f (cZ l (aK c) i)∧ss=[.val (.bk [aa.enc x] 3 false),.val (ae V.str 1 (aK c)),.row n f 3,.val (ae aa.enc 3 l),.val (.int .i64 ((l.length:Nat):Int)),.val (.int .i64 (i:Int))]):
  WL Tryz.prog 36 Tryz.f36 qt 0 nD (fun k' ei=>GV l c k' ei∧l.length-cu ei<l.length-cu ss) (bl σ k) 0 ss:=by
 have h0:=R.h0
 have hi:=R.hi
 have hl:=R.hl
 have hS:=R.hS
 rcases hI with ⟨he,rfl⟩ | ⟨n,f,j4,hr,rfl⟩
 ·rw[XF]
  refine⟨rfl,av (fun a1=>⟨⟨by omega,by omega⟩,_,rfl,by omega,af.mk (fun a2=>⟨_,rfl,R.Jq i (by omega),⟨rfl,rfl,rfl⟩,?_⟩) fun a2=>?_⟩) fun a1=>⟨rfl,⟨x,rfl,?_⟩⟩⟩
  ·rw[dU] at a2⊢
   rw[i64_in ((i:Int)+1) (by omega)]
   exact⟨⟨h0,i+1,_,by omega,.inl ⟨x,hx,rfl⟩,.inr ⟨1,_,by omega,by rw[vJ (Jr a2),he];exact cN.one _,rfl⟩⟩,uv (by omega)⟩
  ·rw[dU] at a2
   rw[i64_in ((i:Int)+1) (by omega)]
   exact⟨⟨h0,i+1,_,by omega,.inl ⟨x,hx,rfl⟩,.inl ⟨(sG (Bv a2)).trans he,rfl⟩⟩,uv (by omega)⟩
  ·have hk:=R.none hx (by first | exact Nat.le_refl 2 | exact Nat.le_succ 1) a1 he
   first
    | (rw[show gf fp [x]=[x] from List.perm_singleton.1 (jW fp [x])] at hk
       exact bl.rk (.cons (Ds rfl) (.cons (.int _ _) .nil)) hk)
    | (rw[e] at hk
       exact bl.rk (.cons (DC rfl) (.cons (.int _ _) .nil)) hk)
 ·have hn:=hr.1
  have jZ:=xx l (aK c) i
  rw[XG]
  refine⟨rfl,av (fun a1=>⟨⟨by omega,by omega⟩,_,rfl,by omega,af.mk (fun a2=>⟨_,rfl,R.Jq i (by omega),⟨rfl,by omega⟩,⟨rfl,rfl⟩,?_⟩) fun a2=>⟨⟨rfl,rfl⟩,?_⟩⟩) fun a1=>⟨⟨rfl,by omega⟩,rfl,av (fun a3=>R.Zu hx a1 hr a3) fun a3=>⟨j8 l c,R.rep hx a1 hr,rfl,?_,R.fin hx a1 hr a3 rfl⟩⟩⟩
  ·rw[dU] at a2⊢
   rw[i64_in ((i:Int)+1) (by omega)]
   exact⟨⟨h0,i+1,_,by omega,.inl ⟨x,hx,rfl⟩,.inr ⟨n+1,_,by omega,by rw[vJ (Jr a2)];exact hr.push _,rfl⟩⟩,uv (by omega)⟩
  ·rw[dU] at a2
   rw[i64_in ((i:Int)+1) (by omega)]
   exact⟨⟨h0,i+1,_,by omega,.inl ⟨x,hx,rfl⟩,.inr ⟨n,f,j4,by rw[sG (Bv a2)];exact hr,rfl⟩⟩,uv (by omega)⟩
  ·have:=(R.rep hx a1 hr).1
   have h2:([x]).length≤2:=by first | exact Nat.le_refl 2 | exact Nat.le_succ 1
   omega
omit [aC] in
theorem XO {l:List aa} {c:ak} {i:Nat} {x y:aa} {ss:List SV} (R:pg l c i σ k) (hx:bY l c=[x,y]) (hI:(cZ l (aK c) i=[]∧ss=[.val (.bk [aa.enc x,aa.enc y] 3 false),.val (ae V.str 1 (aK c)),.val .ai,.val (ae aa.enc 3 l),.val (.int .i64 ((l.length:Nat):Int)),.val (.int .i64 (i:Int))])∨
   ∃n f,0<n∧cN n f (cZ l (aK c) i)∧ss=[.val (.bk [aa.enc x,aa.enc y] 3 false),.val (ae V.str 1 (aK c)),.row n f 3,.val (ae aa.enc 3 l),.val (.int .i64 ((l.length:Nat):Int)),.val (.int .i64 (i:Int))]):
  WL Tryz.prog 36 Tryz.f36 qt 0 nD (fun k' ei=>GV l c k' ei∧l.length-cu ei<l.length-cu ss) (bl σ k) 0 ss:=by
 have h0:=R.h0
 have hi:=R.hi
 have hl:=R.hl
 have hS:=R.hS
 rcases hI with ⟨he,rfl⟩ | ⟨n,f,j4,hr,rfl⟩
 ·rw[XH]
  refine⟨rfl,av (fun a1=>⟨⟨by omega,by omega⟩,_,rfl,by omega,af.mk (fun a2=>⟨_,rfl,R.Jq i (by omega),⟨rfl,rfl,rfl⟩,?_⟩) fun a2=>?_⟩) fun a1=>⟨rfl,⟨x,y,rfl,fun u w e=>?_⟩⟩⟩
  ·rw[dU] at a2⊢
   rw[i64_in ((i:Int)+1) (by omega)]
   exact⟨⟨h0,i+1,_,by omega,.inr ⟨x,y,hx,rfl⟩,.inr ⟨1,_,by omega,by rw[vJ (Jr a2),he];exact cN.one _,rfl⟩⟩,uv (by omega)⟩
  ·rw[dU] at a2
   rw[i64_in ((i:Int)+1) (by omega)]
   exact⟨⟨h0,i+1,_,by omega,.inr ⟨x,y,hx,rfl⟩,.inl ⟨(sG (Bv a2)).trans he,rfl⟩⟩,uv (by omega)⟩
  ·have hk:=R.none hx (by first | exact Nat.le_refl 2 | exact Nat.le_succ 1) a1 he
   first
    | (rw[show gf fp [x]=[x] from List.perm_singleton.1 (jW fp [x])] at hk
       exact bl.rk (.cons (Ds rfl) (.cons (.int _ _) .nil)) hk)
    | (rw[e] at hk
       exact bl.rk (.cons (DC rfl) (.cons (.int _ _) .nil)) hk)
 ·have hn:=hr.1
  have jZ:=xx l (aK c) i
  rw[XI]
  refine⟨rfl,av (fun a1=>⟨⟨by omega,by omega⟩,_,rfl,by omega,af.mk (fun a2=>⟨_,rfl,R.Jq i (by omega),⟨rfl,by omega⟩,⟨rfl,rfl⟩,?_⟩) fun a2=>⟨⟨rfl,rfl⟩,?_⟩⟩) fun a1=>⟨⟨rfl,by omega⟩,rfl,av (fun a3=>R.Zu hx a1 hr a3) fun a3=>⟨j8 l c,R.rep hx a1 hr,rfl,?_,R.fin hx a1 hr a3 rfl⟩⟩⟩
  ·rw[dU] at a2⊢
   rw[i64_in ((i:Int)+1) (by omega)]
   exact⟨⟨h0,i+1,_,by omega,.inr ⟨x,y,hx,rfl⟩,.inr ⟨n+1,_,by omega,by rw[vJ (Jr a2)];exact hr.push _,rfl⟩⟩,uv (by omega)⟩
  ·rw[dU] at a2
   rw[i64_in ((i:Int)+1) (by omega)]
   exact⟨⟨h0,i+1,_,by omega,.inr ⟨x,y,hx,rfl⟩,.inr ⟨n,f,j4,by rw[sG (Bv a2)];exact hr,rfl⟩⟩,uv (by omega)⟩
  ·have:=(R.rep hx a1 hr).1
   have h2:([x,y]).length≤2:=by first | exact Nat.le_refl 2 | exact Nat.le_succ 1
   omega
theorem Zv {l:List aa} {c:ak} (hp:fi c∧c.f7.length≤1000000∧∀t∈l,dz t) (hk:k (.tuple [ae aa.enc 3 (dS l c),.int .i64 (jk l c)]) σ):bI Tryz.prog 36 [ae aa.enc 3 l,ak.enc c] (bl σ k) Go.Ev.start:=by
 refine(F36.kp (live:=nD) (call:=qt) (fun h=>GU h) 1 (by kernel_rfl) Nat.lt_wfRel.wf (fun _ ss=>l.length-cu ss) (GV l c) GV.clean ?_ ?_)
 ·rw[e36]
  exact⟨l,c,rfl,hp,fun h0=>⟨rfl,av (fun _=>GW hk (xy h0) h0) fun a=>absurd h0 a⟩,
   fun h0=>⟨fun x hx=>⟨rfl,c,rfl,h0,0,_,Nat.zero_le _,.inl ⟨x,hx,rfl⟩,.inl ⟨rfl,rfl⟩⟩,fun x y hx=>⟨rfl,c,rfl,h0,0,_,Nat.zero_le _,.inr ⟨x,y,hx,rfl⟩,.inl ⟨rfl,rfl⟩⟩⟩⟩
 ·intro j hj ss hI
  obtain rfl:j=0:=by omega
  obtain⟨h0,i,tv,hi,ht,hI⟩:=hI
  obtain⟨g2,g3⟩:=cJ (iV h0).1
  have R:pg l c i σ k:=⟨h0,hi,g2,Du c,fun i hi=>by
   have:=(lX (g3 _ (ba hi))).1
   obtain⟨_,h1,h2,_⟩:=this
   omega,hk⟩
  rcases ht with ⟨x,hx,rfl⟩ | ⟨x,y,hx,rfl⟩
  ·exact XN R hx hI
  ·exact XO R hx hI
theorem V6 (h:Zt vs σ k):ag Tryz.prog 36 vs k σ:=by
 obtain⟨l,c,rfl,hp,hk⟩:=h
 exact ag.aJ (aA (bK l) (aA c.aG bm)) (Zv hp hk)
theorem Rq:∀ {f:FuncId} {vs:List V} {σ:St} {k:ah},VX f vs σ k→ag Tryz.prog f vs k σ:=fun h=>aP V6 GU h
end
end Go.Proofs.YtbajncpfmemdgaaGreatDoor
end
section
namespace Go.Proofs.YtbajncpfmemdgaaGreatDoor
open Go Go.Ev Go.IntWalk
section
variable {α:Type} {nm:α→List UInt8} {t:α}
end
theorem cN.two (x y:aa):cN 2 (kD [.agg (aa.cells x),.agg (aa.cells y)]) [x,y]:=⟨rfl,fun i hi=>by
 rcases(show i=0∨i=1 by omega) with rfl | rfl<;>rfl⟩
def Ll (t x:aa):Prop:=Op.bytesLess (fp t) (fp x)=true
def Zw (l:List aa) (t:aa):Nat→List SV→Prop
 | 0,ss=>∃i:Nat,i≤l.length∧((i=0∧ss=[.val (ae aa.enc 3 l),.box (aa.cells t),.val .ai,.val (.bool false),.val (.int .i64 (0:Int))])∨
   ∃(n:Nat) (f:Nat→V),0<i∧((∀x∈l.take i,¬Ll t x)∧cN n f (l.take i)∧ss=[.val (ae aa.enc 3 l),.box (aa.cells t),.row n f 3,.val (.bool false),.val (.int .i64 (i:Int))]∨
    (∃x∈l.take i,Ll t x)∧cN n f (kV fp t (l.take i))∧ss=[.val (ae aa.enc 3 l),.box (aa.cells t),.row n f 3,.val (.bool true),.val (.int .i64 (i:Int))]))
 | _,_=>False
section
variable [Env]
theorem Zw.clean {l:List aa} {t:aa}:∀k ss,Zw l t k ss→∀s∈ss,s.clean
 | 0,_,⟨_,_,.inl ⟨_,e⟩⟩=>by subst e;exact aw (bK l) (aw (aa.clean t) (aw Go.Ev.Clean.ai (aw (Go.Ev.Clean.bool _) (aE bM))))
 | 0,_,⟨_,_,.inr ⟨_,_,_,.inl ⟨_,hr,e⟩⟩⟩=>by subst e;exact aw (bK l) (aw (aa.clean t) (aw hr.cl (aw (Go.Ev.Clean.bool _) (aE bM))))
 | 0,_,⟨_,_,.inr ⟨_,_,_,.inr ⟨_,hr,e⟩⟩⟩=>by subst e;exact aw (bK l) (aw (aa.clean t) (aw hr.cl (aw (Go.Ev.Clean.bool _) (aE bM))))
 | n+1,_,h=>h.elim
variable [aC] {vs:List V} {σ:St} {k:ah}
def w9 (T:List aa) (K:List aa):List aa:=T.foldl (fun o t=>kV fp t o) K
def Zx (l:List aa) (c:ak):Nat→List SV→Prop
 | 0,ss=>ct l c=0∧∃i:Nat,i≤l.length∧((cZ l (aK c) i=[]∧ss=[.val (ae aa.enc 3 l),.val (ae aa.enc 3 (bY l c)),.val (ae V.str 1 (aK c)),.val .ai,.val (.int .i64 (i:Int))])∨
   ∃n f,0<n∧cN n f (cZ l (aK c) i)∧ss=[.val (ae aa.enc 3 l),.val (ae aa.enc 3 (bY l c)),.val (ae V.str 1 (aK c)),.row n f 3,.val (.int .i64 (i:Int))])
 | 1,ss=>ct l c=0∧∃i:Nat,i≤(bY l c).length∧((w9 ((bY l c).take i) (cZ l (aK c) l.length)=[]∧ss=[.val (ae aa.enc 3 (bY l c)),.val .ai,.val (.int .i64 (i:Int))])∨
   ∃n f,cN n f (w9 ((bY l c).take i) (cZ l (aK c) l.length))∧ss=[.val (ae aa.enc 3 (bY l c)),.row n f 3,.val (.int .i64 (i:Int))])
 | _,_=>False
omit [aC] in
theorem Zx.clean {l:List aa} {c:ak}:∀k ss,Zx l c k ss→∀s∈ss,s.clean
 | 0,_,⟨_,_,_,.inl ⟨_,e⟩⟩=>by subst e;exact aw (bK l) (aw (bK _) (aw (et _) (aw Go.Ev.Clean.ai (aE bM))))
 | 0,_,⟨_,_,_,.inr ⟨_,_,_,hr,e⟩⟩=>by subst e;exact aw (bK l) (aw (bK _) (aw (et _) (aw hr.cl (aE bM))))
 | 1,_,⟨_,_,_,.inl ⟨_,e⟩⟩=>by subst e;exact aw (bK _) (aw Go.Ev.Clean.ai (aE bM))
 | 1,_,⟨_,_,_,.inr ⟨_,_,hr,e⟩⟩=>by subst e;exact aw (bK _) (aw hr.cl (aE bM))
 | n+2,_,h=>h.elim
end
end Go.Proofs.YtbajncpfmemdgaaGreatDoor
end
section
namespace Go.Ev
open Go
def fO [Env] (us vs:List V):Prop:=∀(ρ:Ren) (xs:List Value),au ρ us xs→au ρ vs xs
def DD (P:Program) (t:TypeId):Option (List TypeId):=
 match P.underlying t with
 | some (.struct fs)=>some (fs.toList.map (·.type))
 | _=>none
def mb (r:TypeId→List V→Prop):List TypeId→List (List V)→Prop
 | [],[]=>True
 | t::ts,p::ps=>r t p∧mb r ts ps
 | _,_=>False
section
variable [Env] {P:Program} {d:Nat} {t:TypeId} {us:List V}
theorem fO.refl (us:List V):fO us us:=fun _ _ h=>h
theorem fO.append {a b c e:List V} (h:fO a b) (k:fO c e):fO (a++c) (b++e):=fun ρ xs hx=>by
 have h1:=hx.take a.length
 have h2:=hx.drop a.length
 rw[List.take_left' rfl] at h1
 rw[List.drop_left' rfl] at h2
 have e:xs=xs.take a.length++xs.drop a.length:=(List.take_append_drop _ _).symm
 rw[e]
 exact(h ρ _ h1).append (k ρ _ h2)
omit [Env] in
theorem mb.of {r:TypeId→List V→Prop}:∀ {fs:List Field} {ps:List (List V)},HP r fs ps→mb r (fs.map (·.type)) ps
 | [],[],_=>trivial
 | _::_,_::_,h=>⟨h.1,mb.of h.2⟩
omit [Env] in
theorem mb.cons {r:TypeId→List V→Prop} {t:TypeId} {ts:List TypeId} {ps:List (List V)} (h:mb r (t::ts) ps):∃p qs,ps=p::qs∧r t p∧mb r ts qs:=by
 cases ps with
 | nil=>exact h.elim
 | cons p qs=>exact⟨p,qs,rfl,h.1,h.2⟩
omit [Env] in
theorem mb.nil {r:TypeId→List V→Prop} {ps:List (List V)} (h:mb r [] ps):ps=[]:=by
 cases ps with
 | nil=>rfl
 | cons p qs=>exact h.elim
omit [Env] in
theorem cb.struct {tys:List TypeId} (ht:DD P t=some tys) (h:cb P d t us):∃d' ps,us=ps.flatten∧mb (cb P d') tys ps:=by
 cases d with
 | zero=>exact h.elim
 | succ d=>
  unfold DD at ht
  split at ht
  ·rename_i fs hu
   cases ht
   unfold cb at h
   rw[hu] at h
   obtain⟨ps,h1,h2⟩:=h
   exact⟨d,ps,h1,mb.of h2⟩
  ·cases ht
omit [Env] in
theorem cb.int {k:IntKind} (hu:P.underlying t=some (.int k)) (h:cb P d t us):∃n,us=[.int k n]:=by
 cases d with
 | zero=>exact h.elim
 | succ d=>unfold cb at h;rw[hu] at h;obtain⟨n,h,_⟩:=h;exact⟨n,h⟩
omit [Env] in
theorem cb.bool (hu:P.underlying t=some .bool) (h:cb P d t us):∃b,us=[.bool b]:=by
 cases d with
 | zero=>exact h.elim
 | succ d=>unfold cb at h;rw[hu] at h;exact h
omit [Env] in
theorem cb.str (hu:P.underlying t=some .string) (h:cb P d t us):∃s,us=[.str s]:=by
 cases d with
 | zero=>exact h.elim
 | succ d=>unfold cb at h;rw[hu] at h;obtain⟨n,h,_⟩:=h;exact⟨n,h⟩
omit [Env] in
theorem og {α:Type} [Inhabited α] (enc:α→V) (l:List α):b9 l.length (fun i=>enc (l.getD i default))=l.map enc:=by
 apply List.ext_getElem?
 intro i
 by_cases h:i<l.length
 ·rw[dg h,List.getElem?_map,List.getElem?_eq_getElem h,List.getD_eq_getElem?_getD,List.getElem?_eq_getElem h];rfl
 ·rw[List.getElem?_eq_none (by rw[aS];omega),List.getElem?_eq_none (by rw[List.length_map];omega)]
theorem cb.slice {e:TypeId} {α:Type} [Inhabited α] {enc:α→V} {esz:Nat} (hu:P.underlying t=some (.slice e)) (dE:P.cellsOf e=esz) (bd:∀a,(enc a).cells.length=esz)
  (H:∀ {d:Nat} {us:List V},cb P d e us→∃a,fO us (enc a).cells) (h:cb P d t us):∃l:List α,fO us [ae enc esz l]:=by
 cases d with
 | zero=>exact h.elim
 | succ d=>
  unfold cb at h
  rw[hu] at h
  obtain⟨es,rfl,_,V7⟩:=h
  have key:∀es:List (List V),(∀x∈es,cb P d e x)→∃l:List α,l.length=es.length∧∀(ρ:Ren) (ys:List Value),au ρ (ar (es.map (qh P e))) ys→au ρ (ar (l.map enc)) ys:=by
   intro es
   induction es with
   | nil=>exact fun _=>⟨[],rfl,fun _ _ h=>h⟩
   | cons x es ih=>
    intro hx
    obtain⟨l,h1,h2⟩:=ih fun y hy=>hx y (List.mem_cons_of_mem _ hy)
    obtain⟨a,ha⟩:=H (hx x List.mem_cons_self)
    refine⟨a::l,by simp [h1],?_⟩
    have hc:=(hx x List.mem_cons_self).cells
    intro ρ ys hy
    rw[List.map_cons,bS] at hy⊢
    rw[hc] at hy
    exact fO.append (fun ρ xs h=>ha ρ xs h) (fun ρ xs h=>h2 ρ xs h) ρ ys hy
  obtain⟨l,h1,h2⟩:=key es V7
  refine⟨l,fun ρ xs hx=>?_⟩
  cases hx with
  | cons hx hl=>
   cases hl
   refine .cons (.arr (fun h=>by cases h) (zp (ρ':=ρ) (fun _ _ _ h=>h) (dE▸hx) (fun ys hy=>?_) ?_ ?_ fun h=>by cases h)) .nil
   ·rw[og];exact h2 ρ ys hy
   ·rw[og]
    intro v hv
    obtain⟨a,_,rfl⟩:=List.mem_map.1 hv
    exact bd a
   ·rw[aS,List.length_map,h1]
end
end Go.Ev
end
section
namespace Go.Proofs.YtbajncpfmemdgaaGreatDoor
open Go Go.Ev
theorem V8 {n:Int} (h:(Lit.int .u64 n).wf=true):0≤n∧n<18446744073709551616:=by
 have h:(decide (IntKind.u64.min≤n)&&decide (n≤IntKind.u64.max))=true:=h
 rw[Bool.and_eq_true,decide_eq_true_iff,decide_eq_true_iff] at h
 have h1:IntKind.u64.min=0:=by decide
 have h2:IntKind.u64.max=18446744073709551615:=by decide
 omega
def V9 (c:aj):Prop:=sU c.f3
theorem XP {n:Int} (h:(Lit.int .i64 n).wf=true):dH n:=by
 have h:(decide (IntKind.i64.min≤n)&&decide (n≤IntKind.i64.max))=true:=h
 rw[Bool.and_eq_true,decide_eq_true_iff,decide_eq_true_iff] at h
 have h1:IntKind.i64.min= -9223372036854775808:=by decide
 have h2:IntKind.i64.max=9223372036854775807:=by decide
 unfold dH
 omega
section
variable [Env] {P:Program} {d:Nat} {t:TypeId} {us:List V}
omit [Env] in
theorem cb.Wa {k:IntKind} (hu:P.underlying t=some (.int k)) (h:cb P d t us):∃n,us=[.int k n]∧(Lit.int k n).wf=true:=by
 cases d with
 | zero=>exact h.elim
 | succ d=>unfold cb at h;rw[hu] at h;exact h
theorem cb.oU {e:TypeId} {α:Type} [Inhabited α] {Pr:α→Prop} {enc:α→V} {esz:Nat} (hu:P.underlying t=some (.slice e)) (dE:P.cellsOf e=esz) (bd:∀a,(enc a).cells.length=esz)
  (H:∀ {d:Nat} {us:List V},cb P d e us→∃a,Pr a∧fO us (enc a).cells) (h:cb P d t us):∃l:List α,(∀x∈l,Pr x)∧fO us [ae enc esz l]:=by
 cases d with
 | zero=>exact h.elim
 | succ d=>
  unfold cb at h
  rw[hu] at h
  obtain⟨es,rfl,_,V7⟩:=h
  have key:∀es:List (List V),(∀x∈es,cb P d e x)→∃l:List α,l.length=es.length∧(∀x∈l,Pr x)∧∀(ρ:Ren) (ys:List Value),au ρ (ar (es.map (qh P e))) ys→au ρ (ar (l.map enc)) ys:=by
   intro es
   induction es with
   | nil=>exact fun _=>⟨[],rfl,fun x hx=>(by cases hx),fun _ _ h=>h⟩
   | cons x es ih=>
    intro hx
    obtain⟨l,h1,hp,h2⟩:=ih fun y hy=>hx y (List.mem_cons_of_mem _ hy)
    obtain⟨a,hpa,ha⟩:=H (hx x List.mem_cons_self)
    refine⟨a::l,by simp [h1],fun y hy=>?_,?_⟩
    ·rcases List.mem_cons.1 hy with rfl | hy
     ·exact hpa
     ·exact hp y hy
    have hc:=(hx x List.mem_cons_self).cells
    intro ρ ys hy
    rw[List.map_cons,bS] at hy⊢
    rw[hc] at hy
    exact fO.append (fun ρ xs h=>ha ρ xs h) (fun ρ xs h=>h2 ρ xs h) ρ ys hy
  obtain⟨l,h1,hp,h2⟩:=key es V7
  refine⟨l,hp,fun ρ xs hx=>?_⟩
  cases hx with
  | cons hx hl=>
   cases hl
   refine .cons (.arr (fun h=>by cases h) (zp (ρ':=ρ) (fun _ _ _ h=>h) (dE▸hx) (fun ys hy=>?_) ?_ ?_ fun h=>by cases h)) .nil
   ·rw[og];exact h2 ρ ys hy
   ·rw[og]
    intro v hv
    obtain⟨a,_,rfl⟩:=List.mem_map.1 hv
    exact bd a
   ·rw[aS,List.length_map,h1]
end
section
variable [Env]
theorem X9 {d:Nat} {us:List V} (h:cb Tryz.prog d 9 us):∃a:(List UInt8),True∧fO us [.str (a)]:=by
 obtain⟨n,rfl⟩:=h.str (by kernel_rfl)
 exact⟨n,trivial,fO.refl _⟩
theorem X3 {d:Nat} {us:List V} (h:cb Tryz.prog d 3 us):∃a:Int,dH a∧fO us [.int .i64 (a)]:=by
 obtain⟨n,rfl,hn⟩:=cb.Wa (k:=.i64) (by kernel_rfl) h
 exact⟨n,XP hn,fO.refl _⟩
theorem X4 {d:Nat} {us:List V} (h:cb Tryz.prog d 4 us):∃a:Bool,True∧fO us [.bool a]:=by
 obtain⟨n,rfl⟩:=h.bool (by kernel_rfl)
 exact⟨n,trivial,fO.refl _⟩
theorem X44 {d:Nat} {us:List V} (h:cb Tryz.prog d 44 us):∃a:Int,(0≤a∧a<18446744073709551616)∧fO us [.int .u64 (a)]:=by
 obtain⟨n,rfl,hn⟩:=cb.Wa (k:=.u64) (by kernel_rfl) h
 exact⟨n,V8 hn,fO.refl _⟩
theorem X46 {d:Nat} {us:List V} (h:cb Tryz.prog d 46 us):∃a:ay,sU a∧fO us a.cells:=by
 obtain⟨d',ps,rfl,ha⟩:=h.struct (tys:=[3,3,44,9]) (by kernel_rfl)
 obtain⟨p0,_,rfl,h0,ha⟩:=ha.cons
 obtain⟨p1,_,rfl,h1,ha⟩:=ha.cons
 obtain⟨p2,_,rfl,h2,ha⟩:=ha.cons
 obtain⟨p3,_,rfl,h3,ha⟩:=ha.cons
 obtain rfl:=ha.nil
 obtain⟨a0,r0,i0⟩:=X3 h0
 obtain⟨a1,r1,i1⟩:=X3 h1
 obtain⟨a2,r2,i2⟩:=X44 h2
 obtain⟨a3,r3,i3⟩:=X9 h3
 exact⟨⟨a0,a1,a2,a3⟩,⟨r2,r1⟩,i0.append (i1.append (i2.append (i3.append (fO.refl []))))⟩
theorem Zy {d:Nat} {us:List V} (h:cb Tryz.prog d 48 us):∃a:aj,V9 a∧fO us a.cells:=by
 obtain⟨d',ps,rfl,ha⟩:=h.struct (tys:=[9,3,4,46]) (by kernel_rfl)
 obtain⟨p0,_,rfl,h0,ha⟩:=ha.cons
 obtain⟨p1,_,rfl,h1,ha⟩:=ha.cons
 obtain⟨p2,_,rfl,h2,ha⟩:=ha.cons
 obtain⟨p3,_,rfl,h3,ha⟩:=ha.cons
 obtain rfl:=ha.nil
 obtain⟨a0,r0,i0⟩:=X9 h0
 obtain⟨a1,r1,i1⟩:=X3 h1
 obtain⟨a2,r2,i2⟩:=X4 h2
 obtain⟨a3,r3,i3⟩:=X46 h3
 exact⟨⟨a0,a1,a2,a3⟩,r3,i0.append (i1.append (i2.append (i3.append (fO.refl []))))⟩
theorem X49 {d:Nat} {us:List V} (h:cb Tryz.prog d 49 us):∃a:(List aj),(∀x∈a,V9 x)∧fO us [ae aj.enc 7 (a)]:=by
 obtain⟨l,h1,h2⟩:=cb.oU (Pr:=fun x=>V9 x) (enc:=aj.enc) (esz:=7) (by kernel_rfl) (by kernel_rfl) (fun a=>aj.size a) (fun h=>Zy h) h
 exact⟨l,h1,h2⟩
theorem Zz {d:Nat} {us:List V} (h:cb Tryz.prog d 51 us):∃a:aa,dz a∧fO us a.cells:=by
 obtain⟨d',ps,rfl,ha⟩:=h.struct (tys:=[9,3,49]) (by kernel_rfl)
 obtain⟨p0,_,rfl,h0,ha⟩:=ha.cons
 obtain⟨p1,_,rfl,h1,ha⟩:=ha.cons
 obtain⟨p2,_,rfl,h2,ha⟩:=ha.cons
 obtain rfl:=ha.nil
 obtain⟨a0,r0,i0⟩:=X9 h0
 obtain⟨a1,r1,i1⟩:=X3 h1
 obtain⟨a2,r2,i2⟩:=X49 h2
 exact⟨⟨a0,a1,a2⟩,r2,i0.append (i1.append (i2.append (fO.refl [])))⟩
theorem X42 {d:Nat} {us:List V} (h:cb Tryz.prog d 42 us):∃a:(List aa),(∀x∈a,dz x)∧fO us [ae aa.enc 3 (a)]:=by
 obtain⟨l,h1,h2⟩:=cb.oU (Pr:=fun x=>dz x) (enc:=aa.enc) (esz:=3) (by kernel_rfl) (by kernel_rfl) (fun a=>aa.size a) (fun h=>Zz h) h
 exact⟨l,h1,h2⟩
theorem X43 {d:Nat} {us:List V} (h:cb Tryz.prog d 43 us):∃a:(List (List UInt8)),True∧fO us [ae V.str 1 (a)]:=by
 obtain⟨l,h1,h2⟩:=cb.oU (Pr:=fun _=>True) (enc:=V.str) (esz:=1) (by kernel_rfl) (by kernel_rfl) (fun a=>rfl) (fun h=>X9 h) h
 exact⟨l,trivial,h2⟩
theorem X53 {d:Nat} {us:List V} (h:cb Tryz.prog d 53 us):∃a:ak,fi a∧fO us a.cells:=by
 obtain⟨d',ps,rfl,ha⟩:=h.struct (tys:=[3,9,9,9,9,9,3,43,48,51]) (by kernel_rfl)
 obtain⟨p0,_,rfl,h0,ha⟩:=ha.cons
 obtain⟨p1,_,rfl,h1,ha⟩:=ha.cons
 obtain⟨p2,_,rfl,h2,ha⟩:=ha.cons
 obtain⟨p3,_,rfl,h3,ha⟩:=ha.cons
 obtain⟨p4,_,rfl,h4,ha⟩:=ha.cons
 obtain⟨p5,_,rfl,h5,ha⟩:=ha.cons
 obtain⟨p6,_,rfl,h6,ha⟩:=ha.cons
 obtain⟨p7,_,rfl,h7,ha⟩:=ha.cons
 obtain⟨p8,_,rfl,h8,ha⟩:=ha.cons
 obtain⟨p9,_,rfl,h9,ha⟩:=ha.cons
 obtain rfl:=ha.nil
 obtain⟨a0,r0,i0⟩:=X3 h0
 obtain⟨a1,r1,i1⟩:=X9 h1
 obtain⟨a2,r2,i2⟩:=X9 h2
 obtain⟨a3,r3,i3⟩:=X9 h3
 obtain⟨a4,r4,i4⟩:=X9 h4
 obtain⟨a5,r5,i5⟩:=X9 h5
 obtain⟨a6,r6,i6⟩:=X3 h6
 obtain⟨a7,r7,i7⟩:=X43 h7
 obtain⟨a8,r8,i8⟩:=Zy h8
 obtain⟨a9,r9,i9⟩:=Zz h9
 exact⟨⟨a0,a1,a2,a3,a4,a5,a6,a7,a8,a9⟩,⟨r8,r9⟩,i0.append (i1.append (i2.append (i3.append (i4.append (i5.append (i6.append (i7.append (i8.append (i9.append (fO.refl []))))))))))⟩
end
end Go.Proofs.YtbajncpfmemdgaaGreatDoor
end
