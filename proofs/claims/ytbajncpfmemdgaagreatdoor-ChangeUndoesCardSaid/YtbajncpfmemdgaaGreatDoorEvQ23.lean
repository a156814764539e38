/- Proved: parts of the way: Ris, BEq27, BEq28, BE1, SrL, BE2, BE3, BE4, Typed, XC. -/
import Derived.Test.YtbajncpfmemdgaaGreatDoorEvQ22
import Derived.Sort.LotA
import Derived.Laws.Cover1
import Derived.Test.YtbajncpfmemdgaaGreatDoorProg
import Derived.Test.YtbajncpfmemdgaaGreatDoorEvQ13
set_option linter.unusedVariables false
set_option linter.unusedSimpArgs false
section
namespace Go.Proofs.YtbajncpfmemdgaaGreatDoor
open Go Go.Ev
section
variable {α:Type} (nm:α→List UInt8)
def kH (t:α):List α→List α
 | []=>[t]
 | x::r=>if Op.bytesLess (nm t) (nm x)=true then t::x::r else x::kH t r
def fI (l:List α):Prop:=l.Pairwise fun a b=>nm a<nm b
def kp (l:List α):Prop:=l.Pairwise fun a b=>nm a≠nm b
theorem pK (t:α):∀l:List α,(kH nm t l).Perm (t::l)
 | []=>.refl _
 | x::r=>by
  unfold kH
  split
  ·exact .refl _
  ·exact((pK t r).cons x).trans (.swap t x r)
theorem UR {s t:List UInt8} (h:¬s<t) (bQ:t≠s):t<s:=by
 rcases Std.lt_trichotomy s t with g | g | g
 ·exact absurd g h
 ·exact absurd g.symm bQ
 ·exact g
theorem v7 {t:α}:∀ {l:List α},fI nm l→(∀x∈l,nm x≠nm t)→fI nm (kH nm t l)
 | [],_,_=>List.pairwise_singleton _ _
 | x::r,h,hn=>by
  unfold kH
  obtain⟨h1,h2⟩:=List.pairwise_cons.1 h
  rw[bytesLess_eq]
  split
  ·rename_i g
   have g:=of_decide_eq_true g
   refine List.pairwise_cons.2 ⟨fun b hb=>?_,h⟩
   rcases List.mem_cons.1 hb with rfl | hb
   ·exact g
   ·exact List.lt_trans g (h1 b hb)
  ·rename_i g
   have g:¬nm t<nm x:=fun h=>g (decide_eq_true h)
   refine List.pairwise_cons.2 ⟨fun b hb=>?_,v7 h2 fun y hy=>hn y (List.mem_cons_of_mem _ hy)⟩
   rcases List.mem_cons.1 ((pK nm t r).mem_iff.1 hb) with rfl | hb
   ·exact UR g (hn x List.mem_cons_self)
   ·exact h1 b hb
theorem pL:∀ {l m:List α},l.Perm m→fI nm l→fI nm m→l=m
 | [],m,h,_,_=>(List.nil_perm.1 h).symm
 | x::l,[],h,_,_=>absurd h.length_eq (by simp)
 | x::l,y::m,h,hl,hm=>by
  obtain⟨l1,l2⟩:=List.pairwise_cons.1 hl
  obtain⟨m1,m2⟩:=List.pairwise_cons.1 hm
  have e:x=y:=by
   rcases List.mem_cons.1 (h.mem_iff.1 List.mem_cons_self) with e | e
   ·exact e
   ·rcases List.mem_cons.1 (h.symm.mem_iff.1 List.mem_cons_self) with e' | e'
    ·exact e'.symm
    ·exact absurd (List.lt_trans (l1 y e') (m1 x e)) (List.lt_irrefl _)
  subst e
  rw[pL (List.Perm.cons_inv h) l2 m2]
theorem qh:∀(T K:List α),(T.foldl (fun o t=>kH nm t o) K).Perm (K++T)
 | [],K=>by rw[List.append_nil];exact .refl _
 | t::T,K=>(qh T (kH nm t K)).trans (((pK nm t K).append_right T).trans List.perm_middle.symm)
theorem nt:∀ {T K:List α},fI nm K→kp nm (K++T)→fI nm (T.foldl (fun o t=>kH nm t o) K)
 | [],K,h,_=>h
 | t::T,K,h,ha=>by
  have Ge:kp nm (t::(K++T)):=(List.perm_middle.pairwise_iff fun h=>Ne.symm h).1 ha
  obtain⟨a1,a2⟩:=List.pairwise_cons.1 Ge
  show fI nm (T.foldl (fun o t=>kH nm t o) (kH nm t K))
  refine nt (T:=T) (K:=kH nm t K) (v7 nm h fun x hx=>Ne.symm (a1 x (List.mem_append_left _ hx))) ?_
  exact(((pK nm t K).append_right T).symm.pairwise_iff fun h=>Ne.symm h).1 Ge
variable [Inhabited α]
noncomputable def gb (l:List α):List α:=(e9 l.length fun i=>nm (l.getD i default)).toList.map fun i=>l.getD i default
theorem zt:Sort.SWO (ltOf je):=by
 have e:ltOf je=Sort.ltStr:=by
  funext x y
  unfold ltOf je
  rw[bytesLess_eq]
  by_cases h:x<y
  ·simp [Sort.ltStr,h]
  ·have g:¬(if x=y then(0:Int) else 1)<0:=by split<;>decide
   rw[decide_eq_false h,if_neg Bool.false_ne_true,decide_eq_false g]
   exact(decide_eq_false h).symm
 rw[e];exact Sort.swo_ltStr
theorem Ai (l:List α):(List.range l.length).map (fun i=>l.getD i default)=l:=by
 refine List.ext_getElem (by simp) fun i h1 h2=>?_
 simp [List.getD_eq_getElem?_getD,List.getElem?_eq_getElem h2]
theorem jQ (l:List α):(gb nm l).Perm l:=by
 have h:=(q3 zt l.length fun i=>nm (l.getD i default)).2.1.map fun i=>l.getD i default
 rwa [Ai] at h
theorem ng (l:List α):(gb nm l).length=l.length:=(jQ nm l).length_eq
theorem um (l:List α) {i:Nat} (hi:i<l.length):(gb nm l).getD i default=l.getD (e9 l.length fun i=>nm (l.getD i default))[i]! default:=by
 have hs:=(q3 zt l.length fun i=>nm (l.getD i default)).1
 have h2:i<(e9 l.length fun i=>nm (l.getD i default)).size:=by omega
 unfold gb
 rw[List.getD_eq_getElem?_getD,List.getElem?_map,getElem!_pos _ i h2,Array.getElem?_toList,Array.getElem?_eq_getElem h2];rfl
theorem CT {l:List α} (h:kp nm l):fI nm (gb nm l):=by
 have ha:kp nm (gb nm l):=((jQ nm l).pairwise_iff fun h=>Ne.symm h).2 h
 have h3:=(q3 zt l.length fun i=>nm (l.getD i default)).2.2
 refine List.pairwise_iff_getElem.2 fun i j hi hj jA=>?_
 have hn:=List.pairwise_iff_getElem.1 ha i j hi hj jA
 rw[ng] at hi hj
 have g:=h3 i j jA hj
 rw[bytesLess_eq,o1 (vp zt hj),o1 (vp zt hi),←um nm l hj,←um nm l hi] at g
 have g:=of_decide_eq_false g
 rw[List.getD_eq_getElem?_getD,List.getD_eq_getElem?_getD,List.getElem?_eq_getElem (by rw[ng];exact hj),List.getElem?_eq_getElem (by rw[ng];exact hi)] at g
 exact UR g hn
theorem Nq {K T:List α} (hK:fI nm K) (ha:kp nm (K++T)):gb nm (K++T)=T.foldl (fun o t=>kH nm t o) K:=
 pL nm ((jQ nm _).trans (qh nm T K).symm) (CT nm ha) (nt nm hK ha)
end
end Go.Proofs.YtbajncpfmemdgaaGreatDoor
end
section
namespace Go.Proofs.YtbajncpfmemdgaaGreatDoor
open Go Go.Ev
def fm (t:aa):List UInt8:=t.f0
noncomputable def dO (l:List aa) (S:List (List UInt8)) (n:Nat):List aa:=bp (fun i=>decide (fk S (l.getD i default).f0<0)) (fun i=>l.getD i default) n
noncomputable def jE (l:List aa) (c:ak):List aa:=dO l (aQ c) l.length++bZ l c
noncomputable def iq (l:List aa) (c:ak):Int:=if cx l c≠0 then cx l c else if 16<(jE l c).length then 2 else 0
noncomputable def zu (l:List aa) (c:ak):List aa:=(bZ l c).foldl (fun o t=>kH fm t o) (dO l (aQ c) l.length)
noncomputable def gW (l:List aa) (c:ak):List aa:=if iq l c=0 then zu l c else []
def US [Env] (vs:List V) (σ:St) (k:ah):Prop:=
 match vs with
 | [.own b n 3,.func (.func 78) [] []]=>(match σ.heap.get b with
  | some (.row m f 3 _)=>∃q:List aa,(m=q.length∧∀i,i<m→f i=aa.enc (q.getD i default))∧n=m∧(0<q.length∧q.length≤1000)∧k (.tuple []) (σ.set b (.row m (fun i=>aa.enc ((gb fm q).getD i default)) 3 false))
  | _=>False)
 | [.slice b 0 1 1 false 3,.func (.func 78) [] []]=>(match σ.heap.get b with
  | some (.cells 3 [] t _ false)=>∃x:aa,t=an (aa.cells x) .leaf 0∧k (.tuple []) (σ.set b (.cells 3 [] (an (aa.cells x) .leaf 0) false false))
  | _=>False)
 | [.slice b 0 2 2 false 3,.func (.func 78) [] []]=>(match σ.heap.get b with
  | some (.cells 6 [] t _ false)=>∃x y:aa,t=an (aa.cells x++aa.cells y) .leaf 0∧∀u w:aa,gb fm [x,y]=[u,w]→k (.tuple []) (σ.set b (.cells 6 [] (an (aa.cells u++aa.cells w) .leaf 0) false false))
  | _=>False)
 | _=>False
def UT [Env]:=kS 77 US UK
def UU [Env] (vs:List V) (σ:St) (k:ah):Prop:=
 ∃(l:List aa) (c:ak),vs=[af aa.enc 3 l,ak.enc c]∧(e7 c∧c.f7.length≤1000000∧∀t∈l,dY t)∧(cx l c≠0→k (.tuple [af aa.enc 3 [],.int .i64 (cx l c)]) σ)∧(cx l c=0→(∀x:aa,bZ l c=[x]→k (.tuple [.bj [aa.enc x] 3 false,.int .i64 0]) σ)∧(∀x y:aa,bZ l c=[x,y]→k (.tuple [.bj [aa.enc x,aa.enc y] 3 false,.int .i64 0]) σ))
def qi [Env]:=kS 30 UU UT
def nh:Nat→List Nat:=(fun i=>match i with | 0=>[6,8,9,23,24,25] | _=>[])
theorem e36 [Env] (A:Nat→List SV→Prop) (Q:V→St→Prop) (l:List aa) (c:ak):WE Tryz.prog 36 Tryz.f36 qi 0 nh A Q [af aa.enc 3 l,ak.enc c] Go.Ev.start=
  ((∃(uo:List aa) (sm:ak),[af aa.enc 3 l,.agg (ak.cells c)]=[af aa.enc 3 uo,ak.enc sm]∧(e7 sm∧sm.f7.length≤1000000∧∀t∈uo,dY t)∧(cx uo sm≠0→((.i64:IntKind)=.i64∧ae (decide ((cx uo sm)≠(0:Int))) (Q (.tuple [.ai,.int .i64 (cx uo sm)]) ⟨(St.new Go.Ev.start 0 (.cells 18 [] (an (ak.cells c) .leaf 0) true false)).heap,1⟩) ((∃UW:ak,[.agg (ak.cells c)]=[ak.enc UW]∧A 0 [.val (af aa.enc 3 ([])),.val (af V.str 1 ((aQ UW))),.val (.ai),.val (af aa.enc 3 l),.val (.int .i64 (((l.length:Nat):Int))),.val (.int .i64 (0:Int))]))))∧(cx uo sm=0→(∀UX:aa,bZ uo sm=[UX]→((.i64:IntKind)=.i64∧(∃UY:ak,[.agg (ak.cells c)]=[ak.enc UY]∧A 0 [.val (.bj [aa.enc UX] 3 false),.val (af V.str 1 ((aQ UY))),.val (.ai),.val (af aa.enc 3 l),.val (.int .i64 (((l.length:Nat):Int))),.val (.int .i64 (0:Int))])))∧(∀UZ U0:aa,bZ uo sm=[UZ,U0]→((.i64:IntKind)=.i64∧(∃U1:ak,[.agg (ak.cells c)]=[ak.enc U1]∧A 0 [.val (.bj [aa.enc UZ,aa.enc U0] 3 false),.val (af V.str 1 ((aQ U1))),.val (.ai),.val (af aa.enc 3 l),.val (.int .i64 (((l.length:Nat):Int))),.val (.int .i64 (0:Int))])))))):=by kernel_rfl
theorem WG [Env] (A:Nat→List SV→Prop) (Q:V→St→Prop) (s:List (List UInt8)) (l:List aa) (m i:Int) (x:aa):WL Tryz.prog 36 Tryz.f36 qi 0 nh A Q 0 [.val (.bj [aa.enc x] 3 false),.val (af V.str 1 s),.val (.ai),.val (af aa.enc 3 l),.val (.int .i64 m),.val (.int .i64 i)]=
  (((.i64:IntKind)=.i64∧ae (decide (i<m)) (((0≤i∧i<((l.length:Nat):Int))∧(∃U2:Nat→List UInt8,(fun i=>V.str (s.getD i default))=(fun i=>V.str (U2 i))∧s.length≤1000000∧ae ((!(decide (0≤cb ((l.getD i.toNat default).f0) U2 s.length)))) ((∃Ix:List aj,[af aj.enc 7 ((l.getD i.toNat default).f2)]=[af aj.enc 7 Ix]∧(0<Ix.length∧Ix.length≤1000)∧(((1:Nat)=1∧(1:Nat)=1∧1*3=1*3)∧A 0 [.val (.bj [aa.enc x] 3 false),.val (af V.str 1 s),.row 1 (fun _=>.agg [.str ((l.getD i.toNat default).f0),.int .i64 ((l.getD i.toNat default).f1),af aj.enc 7 Ix]) 3,.val (af aa.enc 3 l),.val (.int .i64 m),.val (.int .i64 (IntKind.i64.wrap (i+(1:Int))))]))) (A 0 [.val (.bj [aa.enc x] 3 false),.val (af V.str 1 s),.val (.ai),.val (af aa.enc 3 l),.val (.int .i64 m),.val (.int .i64 (IntKind.i64.wrap (i+(1:Int))))])))) (((.i64:IntKind)=.i64∧(∃U3:aa,(an (aa.cells x) .leaf 0:Trie V)=an (aa.cells U3) .leaf 0∧Q (.tuple [.slice 0 0 (1) (1) false 3,.int .i64 (0:Int)]) ⟨(St.new Go.Ev.start 0 (.cells 3 [] (an (aa.cells U3) .leaf 0) false false)).heap,1⟩))))):=by kernel_rfl
theorem WH [Env] (A:Nat→List SV→Prop) (Q:V→St→Prop) (s:List (List UInt8)) (l:List aa) (m i:Int) (n:Nat) (f:Nat→V) (x:aa):WL Tryz.prog 36 Tryz.f36 qi 0 nh A Q 0 [.val (.bj [aa.enc x] 3 false),.val (af V.str 1 s),.row n f 3,.val (af aa.enc 3 l),.val (.int .i64 m),.val (.int .i64 i)]=
  (((.i64:IntKind)=.i64∧ae (decide (i<m)) (((0≤i∧i<((l.length:Nat):Int))∧(∃U4:Nat→List UInt8,(fun i=>V.str (s.getD i default))=(fun i=>V.str (U4 i))∧s.length≤1000000∧ae ((!(decide (0≤cb ((l.getD i.toNat default).f0) U4 s.length)))) ((∃Iy:List aj,[af aj.enc 7 ((l.getD i.toNat default).f2)]=[af aj.enc 7 Iy]∧(0<Iy.length∧Iy.length≤1000)∧((n=n∧(n+1)*48≤1099511627776)∧(((n+1)=(n+1)∧3=3)∧A 0 [.val (.bj [aa.enc x] 3 false),.val (af V.str 1 s),.row (n+1) (dU n f (fun _=>.agg [.str ((l.getD i.toNat default).f0),.int .i64 ((l.getD i.toNat default).f1),af aj.enc 7 Iy])) 3,.val (af aa.enc 3 l),.val (.int .i64 m),.val (.int .i64 (IntKind.i64.wrap (i+(1:Int))))])))) (((n=n∧3=3)∧A 0 [.val (.bj [aa.enc x] 3 false),.val (af V.str 1 s),.row n f 3,.val (af aa.enc 3 l),.val (.int .i64 m),.val (.int .i64 (IntKind.i64.wrap (i+(1:Int))))]))))) (((n=n∧(n+1)*48≤1099511627776)∧((.i64:IntKind)=.i64∧ae (decide ((((n+1:Nat):Int))>(16:Int))) (Q (.tuple [.ai,.int .i64 (2:Int)]) ⟨(St.new Go.Ev.start 1 (.row (n+1) (dU n f (kr [aa.enc x])) 3 false)).heap,2⟩) ((∃CU:List aa,((n+1)=CU.length∧∀i,i<(n+1)→((dU n f (kr [aa.enc x])):Nat→V) i=aa.enc (CU.getD i default))∧(n+1)=(n+1)∧(0<CU.length∧CU.length≤1000)∧Q (.tuple [.own 1 (n+1) 3,.int .i64 (0:Int)]) ⟨(St.new Go.Ev.start 1 (.row (n+1) (fun i=>aa.enc (((gb fm CU)).getD i default)) 3 false)).heap,2⟩))))))):=by kernel_rfl
theorem WI [Env] (A:Nat→List SV→Prop) (Q:V→St→Prop) (s:List (List UInt8)) (l:List aa) (m i:Int) (x y:aa):WL Tryz.prog 36 Tryz.f36 qi 0 nh A Q 0 [.val (.bj [aa.enc x,aa.enc y] 3 false),.val (af V.str 1 s),.val (.ai),.val (af aa.enc 3 l),.val (.int .i64 m),.val (.int .i64 i)]=
  (((.i64:IntKind)=.i64∧ae (decide (i<m)) (((0≤i∧i<((l.length:Nat):Int))∧(∃U5:Nat→List UInt8,(fun i=>V.str (s.getD i default))=(fun i=>V.str (U5 i))∧s.length≤1000000∧ae ((!(decide (0≤cb ((l.getD i.toNat default).f0) U5 s.length)))) ((∃Iz:List aj,[af aj.enc 7 ((l.getD i.toNat default).f2)]=[af aj.enc 7 Iz]∧(0<Iz.length∧Iz.length≤1000)∧(((1:Nat)=1∧(1:Nat)=1∧1*3=1*3)∧A 0 [.val (.bj [aa.enc x,aa.enc y] 3 false),.val (af V.str 1 s),.row 1 (fun _=>.agg [.str ((l.getD i.toNat default).f0),.int .i64 ((l.getD i.toNat default).f1),af aj.enc 7 Iz]) 3,.val (af aa.enc 3 l),.val (.int .i64 m),.val (.int .i64 (IntKind.i64.wrap (i+(1:Int))))]))) (A 0 [.val (.bj [aa.enc x,aa.enc y] 3 false),.val (af V.str 1 s),.val (.ai),.val (af aa.enc 3 l),.val (.int .i64 m),.val (.int .i64 (IntKind.i64.wrap (i+(1:Int))))])))) (((.i64:IntKind)=.i64∧(∃U6 U7:aa,(an [.str x.f0,.int .i64 x.f1,af aj.enc 7 x.f2,.str y.f0,.int .i64 y.f1,af aj.enc 7 y.f2] .leaf 0:Trie V)=an (aa.cells U6++aa.cells U7) .leaf 0∧∀IA IB:aa,gb fm [U6,U7]=[IA,IB]→Q (.tuple [.slice 0 0 (2) (2) false 3,.int .i64 (0:Int)]) ⟨(St.new Go.Ev.start 0 (.cells 6 [] (an [.str IA.f0,.int .i64 IA.f1,af aj.enc 7 IA.f2,.str IB.f0,.int .i64 IB.f1,af aj.enc 7 IB.f2] .leaf 0) false false)).heap,1⟩))))):=by kernel_rfl
theorem WJ [Env] (A:Nat→List SV→Prop) (Q:V→St→Prop) (s:List (List UInt8)) (l:List aa) (m i:Int) (n:Nat) (f:Nat→V) (x y:aa):WL Tryz.prog 36 Tryz.f36 qi 0 nh A Q 0 [.val (.bj [aa.enc x,aa.enc y] 3 false),.val (af V.str 1 s),.row n f 3,.val (af aa.enc 3 l),.val (.int .i64 m),.val (.int .i64 i)]=
  (((.i64:IntKind)=.i64∧ae (decide (i<m)) (((0≤i∧i<((l.length:Nat):Int))∧(∃U8:Nat→List UInt8,(fun i=>V.str (s.getD i default))=(fun i=>V.str (U8 i))∧s.length≤1000000∧ae ((!(decide (0≤cb ((l.getD i.toNat default).f0) U8 s.length)))) ((∃IC:List aj,[af aj.enc 7 ((l.getD i.toNat default).f2)]=[af aj.enc 7 IC]∧(0<IC.length∧IC.length≤1000)∧((n=n∧(n+1)*48≤1099511627776)∧(((n+1)=(n+1)∧3=3)∧A 0 [.val (.bj [aa.enc x,aa.enc y] 3 false),.val (af V.str 1 s),.row (n+1) (dU n f (fun _=>.agg [.str ((l.getD i.toNat default).f0),.int .i64 ((l.getD i.toNat default).f1),af aj.enc 7 IC])) 3,.val (af aa.enc 3 l),.val (.int .i64 m),.val (.int .i64 (IntKind.i64.wrap (i+(1:Int))))])))) (((n=n∧3=3)∧A 0 [.val (.bj [aa.enc x,aa.enc y] 3 false),.val (af V.str 1 s),.row n f 3,.val (af aa.enc 3 l),.val (.int .i64 m),.val (.int .i64 (IntKind.i64.wrap (i+(1:Int))))]))))) (((n=n∧(n+2)*48≤1099511627776)∧((.i64:IntKind)=.i64∧ae (decide ((((n+2:Nat):Int))>(16:Int))) (Q (.tuple [.ai,.int .i64 (2:Int)]) ⟨(St.new Go.Ev.start 1 (.row (n+2) (dU n f (kr [aa.enc x,aa.enc y])) 3 false)).heap,2⟩) ((∃CV:List aa,((n+2)=CV.length∧∀i,i<(n+2)→((dU n f (kr [aa.enc x,aa.enc y])):Nat→V) i=aa.enc (CV.getD i default))∧(n+2)=(n+2)∧(0<CV.length∧CV.length≤1000)∧Q (.tuple [.own 1 (n+2) 3,.int .i64 (0:Int)]) ⟨(St.new Go.Ev.start 1 (.row (n+2) (fun i=>aa.enc (((gb fm CV)).getD i default)) 3 false)).heap,2⟩))))))):=by kernel_rfl
def Yw [Env] (vs:List V) (σ:St) (k:ah):Prop:=
 ∃(l:List aa) (c:ak),vs=[af aa.enc 3 l,ak.enc c]∧(e7 c∧c.f7.length≤1000000∧∀t∈l,dY t)∧k (.tuple [af aa.enc 3 (gW l c),.int .i64 (iq l c)]) σ
def U9 [Env]:=kS 36 Yw qi
end Go.Proofs.YtbajncpfmemdgaaGreatDoor
end
section
namespace Go.Proofs.YtbajncpfmemdgaaGreatDoor
open Go Go.Ev
def Va [Env] (vs:List V) (σ:St) (k:ah):Prop:=
 ∃l:List aa,vs=[af aa.enc 3 l]∧k (.int .i64 0) σ∧(l.length≤20→k (.int .i64 1) σ)
def Vb [Env]:=kS 27 Va U9
end Go.Proofs.YtbajncpfmemdgaaGreatDoor
end
section
namespace Go.Proofs.YtbajncpfmemdgaaGreatDoor
open Go Go.Ev Go.IntWalk
theorem v8 {α:Type} (q:α→Bool) (f:Nat→α):∀n,bp (fun i=>q (f i)) f n=((List.range n).map f).filter q
 | 0=>rfl
 | n+1=>by
  show(if q (f n)=true then bp (fun i=>q (f i)) f n++[f n] else bp (fun i=>q (f i)) f n)=_
  rw[List.range_succ,List.map_append,List.filter_append,v8 q f n]
  by_cases h:q (f n)=true
  ·rw[if_pos h];simp [h]
  ·rw[if_neg h];simp [h]
theorem wV (l:List aa) (S:List (List UInt8)):dO l S l.length=l.filter fun t=>decide (fk S t.f0<0):=by
 have:=v8 (fun t:aa=>decide (fk S t.f0<0)) (fun i=>l.getD i default) l.length
 rw[Ai] at this
 exact this
theorem zw {S:List (List UInt8)} {s:List UInt8}:fk S s<0↔s∉S:=by
 unfold fk
 rcases gV s (fun i=>S.getD i default) S.length with ⟨h1,h2⟩ | ⟨i,h1,h2,h3,_⟩
 ·rw[h1]
  refine⟨fun _ hm=>?_,fun _=>by decide⟩
  obtain⟨i,hi,e⟩:=List.mem_iff_getElem.1 hm
  exact h2 i hi (by rw[cI hi];exact e)
 ·rw[h1]
  refine⟨fun h=>by omega,fun h=>absurd ?_ h⟩
  rw[←h3,cI h2];exact List.getElem_mem h2
theorem Aj {l:List aa} {s:List UInt8}:bh l s<0↔∀t∈l,t.f0≠s:=by
 unfold bh
 rcases gV s (fun i=>(l.getD i default).f0) l.length with ⟨h1,h2⟩ | ⟨i,h1,h2,h3,_⟩
 ·rw[h1]
  refine⟨fun _ t hm=>?_,fun _=>by decide⟩
  obtain⟨i,hi,e⟩:=List.mem_iff_getElem.1 hm
  have:=h2 i hi
  rw[cI hi,e] at this;exact this
 ·rw[h1]
  refine⟨fun h=>by omega,fun h=>absurd ?_ (h l[i] (List.getElem_mem h2))⟩
  rw[←h3,cI h2]
theorem CW {q:Nat→List UInt8} {n:Nat} (h:∀i,i<n→0<i→(Op.bytesLess (q i) (q (i-1))||q i==q (i-1))=false):∀j i,i<j→j<n→q i<q j
 | 0,i,hi,_=>absurd hi (Nat.not_lt_zero i)
 | j+1,i,hi,hj=>by
  have h1:=h (j+1) hj (Nat.succ_pos j)
  rw[Nat.add_sub_cancel,Bool.or_eq_false_iff,bytesLess_eq] at h1
  have h2:q j<q (j+1):=UR (of_decide_eq_false h1.1) fun e=>by
   have:=h1.2;rw[←e] at this;simp at this
  by_cases e:i=j
  ·subst e;exact h2
  ·exact List.lt_trans (CW h j i (by omega) (by omega)) h2
theorem Nr {q:Nat→List UInt8} {n:Nat} (h:∀i j,i<j→j<n→q i<q j):∀i,i<n→0<i→(Op.bytesLess (q i) (q (i-1))||q i==q (i-1))=false:=fun i hi h0=>by
 have h1:=h (i-1) i (by omega) hi
 rw[Bool.or_eq_false_iff,bytesLess_eq]
 refine⟨decide_eq_false fun h2=>List.lt_irrefl _ (List.lt_trans h1 h2),?_⟩
 cases e:q i==q (i-1) with
 | false=>rfl
 | true=>rw[beq_iff_eq.1 e] at h1;exact absurd h1 (List.lt_irrefl _)
theorem jR {l:List aa}:cr l=0↔l.length≤16∧(∀t∈l,bB t=0)∧fI fm l:=by
 constructor
 ·intro h
  obtain⟨h1,h2⟩:=cJ h
  refine⟨h1,h2,?_⟩
  have h3:∀j,j<l.length→bB (l.getD j default)=0:=fun j hj=>h2 _ (by rw[cI hj];exact List.getElem_mem hj)
  rw[mL (by omega) h3] at h
  have h4:vj (nameAt l) l.length=true:=Classical.byContradiction fun g=>by rw[if_neg g] at h;cases h
  have h5:=CW ((mY _ _).1 h4)
  refine List.pairwise_iff_getElem.2 fun i j hi hj jA=>?_
  have:=h5 j i jA hj
  unfold nameAt at this
  rwa [cI hi,cI hj] at this
 ·rintro⟨h1,h2,h3⟩
  rw[mL (by omega) fun j hj=>h2 _ (by rw[cI hj];exact List.getElem_mem hj),if_pos]
  refine(mY _ _).2 (Nr fun i j jA hj=>?_)
  unfold nameAt
  rw[cI hj,cI (by omega:i<l.length)]
  exact List.pairwise_iff_getElem.1 h3 i j (by omega) hj jA
theorem fI.apart {α:Type} {nm:α→List UInt8} {l:List α} (h:fI nm l):kp nm l:=List.Pairwise.imp (fun h e=>by rw[e] at h;exact List.lt_irrefl _ h) h
theorem Ns {c:ak} {t u:aa} (hr:¬(c.f0<1∨6<c.f0)) (h:kE c t u=0):kp fm (kT c t):=by
 rcases(show c.f0=1∨c.f0=2∨c.f0=3∨c.f0=4∨c.f0=5∨c.f0=6 by omega) with h0 | h0 | h0 | h0 | h0 | h0
 ·rw[CI h0];exact List.pairwise_singleton _ _
 ·rw[CJ h0];exact List.pairwise_singleton _ _
 ·rw[Ik h0];exact List.pairwise_singleton _ _
 ·rw[Nh h0];exact List.pairwise_singleton _ _
 ·rw[Im h0];rw[Il h0] at h
  refine List.pairwise_cons.2 ⟨fun b hb=>?_,List.pairwise_singleton _ _⟩
  rw[List.mem_singleton.1 hb]
  intro e
  have e:c.f3=c.f4:=e
  unfold oP at h
  by_cases g1:aP c.f3≠0
  ·rw[if_pos g1] at h;exact g1 h
  ·by_cases g2:aP c.f4≠0
   ·rw[if_neg g1,if_pos g2] at h;exact g2 h
   ·rw[if_neg g1,if_neg g2,if_pos e] at h;cases h
 ·rw[Ni h0];exact List.pairwise_singleton _ _
theorem mq {l:List aa} {c:ak} (h:cx l c=0):bZ l c=kT c (aC l c.f1):=if_pos h
theorem wW (l:List aa) (S:List (List UInt8)):(dO l S l.length).Sublist l:=by rw[wV];exact List.filter_sublist
theorem ni {l:List aa} {c:ak} (h:cx l c=0):fI fm (dO l (aQ c) l.length)∧kp fm (jE l c)∧0<(bZ l c).length:=by
 obtain⟨h1,h2,h3,h4⟩:=mo h
 obtain⟨g1,g2,g3⟩:=jR.1 h1
 have hk:fI fm (dO l (aQ c) l.length):=List.Pairwise.sublist (wW l _) g3
 refine⟨hk,?_,?_⟩
 ·refine List.pairwise_append.2 ⟨hk.apart,by rw[mq h];exact Ns h2 h4,fun a ha b hb e=>?_⟩
  have e:a.f0=b.f0:=e
  rw[wV,List.mem_filter] at ha
  obtain⟨ha1,Ge⟩:=ha
  have Ge:=of_decide_eq_true Ge
  rw[iR h1 h2 h3 h4] at h
  rw[mq (by rw[iR h1 h2 h3 h4];exact h)] at hb
  obtain⟨i,hi,e2⟩:=List.mem_iff_getElem.1 hb
  have:=(cm (fun i=>if 0≤bh l ((kT c (aC l c.f1)).getD i default).f0∧fk (aQ c) ((kT c (aC l c.f1)).getD i default).f0<0 then(12:Int) else 0) _).1 h i hi
  rw[cI hi,e2,←e] at this
  by_cases g:bh l a.f0<0
  ·exact Aj.1 g a ha1 rfl
  ·rw[if_pos ⟨by omega,Ge⟩] at this;cases this
 ·rw[mq h]
  unfold kT oQ
  repeat' split
  all_goals exact Nat.zero_lt_succ _
theorem Nt {l:List aa} {c:ak} (h:cx l c=0):gb fm (jE l c)=zu l c:=Nq fm (ni h).1 (ni h).2.1
theorem pM (l:List aa) (c:ak):(zu l c).Perm (jE l c):=qh fm _ _
theorem wa {l:List aa} {c:ak} (h:cx l c=0):fI fm (zu l c):=nt fm (ni h).1 (ni h).2.1
end Go.Proofs.YtbajncpfmemdgaaGreatDoor
end
section
namespace Go.Proofs.YtbajncpfmemdgaaGreatDoor
open Go.Shelf
def o3:Go.Shelf.Ren:=⟨fun | 6=>77 | 15=>131 | 14=>130 | 28=>173 | 29=>174 | 20=>165 | 21=>166 | 22=>167 | 23=>168 | 24=>169 | 25=>170 | 26=>171 | 27=>172 | 46=>213 | 47=>214 | 48=>215 | 49=>216 | 50=>217 | 57=>246 | n=>n,fun | 22=>42 | 24=>51 | 25=>113 | 3=>3 | 39=>175 | 0=>0 | 53=>213 | 55=>44 | 4=>4 | 46=>207 | 45=>206 | 50=>131 | 5=>5 | 9=>9 | 66=>252 | 70=>256 | 76=>289 | 77=>36 | n=>n,fun | n=>n⟩
theorem Nu:Go.Proofs.SlLaysF0.n6 Tryz.prog o3:={
 mixed:=by kernel_rfl
 f6:=⟨Tryz.f77.name,by decide,Tryz.func77.trans (congrArg some (by kernel_rfl))⟩
 f14:=⟨Tryz.f130.name,by decide,Tryz.func130.trans (congrArg some (by kernel_rfl))⟩
 f15:=Tryz.func131.trans (congrArg some (by kernel_rfl))
 f20:=⟨Tryz.f165.name,by decide,Tryz.func165.trans (congrArg some (by kernel_rfl))⟩
 f21:=⟨Tryz.f166.name,by decide,Tryz.func166.trans (congrArg some (by kernel_rfl))⟩
 f22:=⟨Tryz.f167.name,by decide,Tryz.func167.trans (congrArg some (by kernel_rfl))⟩
 f23:=⟨Tryz.f168.name,by decide,Tryz.func168.trans (congrArg some (by kernel_rfl))⟩
 f24:=⟨Tryz.f169.name,by decide,Tryz.func169.trans (congrArg some (by kernel_rfl))⟩
 f25:=⟨Tryz.f170.name,by decide,Tryz.func170.trans (congrArg some (by kernel_rfl))⟩
 f26:=⟨Tryz.f171.name,by decide,Tryz.func171.trans (congrArg some (by kernel_rfl))⟩
 f27:=⟨Tryz.f172.name,by decide,Tryz.func172.trans (congrArg some (by kernel_rfl))⟩
 f28:=Tryz.func173.trans (congrArg some (by kernel_rfl))
 f29:=Tryz.func174.trans (congrArg some (by kernel_rfl))
 f46:=⟨Tryz.f213.name,by decide,Tryz.func213.trans (congrArg some (by kernel_rfl))⟩
 f47:=Tryz.func214.trans (congrArg some (by kernel_rfl))
 f48:=Tryz.func215.trans (congrArg some (by kernel_rfl))
 f49:=⟨Tryz.f216.name,by decide,Tryz.func216.trans (congrArg some (by kernel_rfl))⟩
 f50:=⟨Tryz.f217.name,by decide,Tryz.func217.trans (congrArg some (by kernel_rfl))⟩
 f57:=⟨Tryz.f246.name,by decide,Tryz.func246.trans (congrArg some (by kernel_rfl))⟩
 t0:=Tryz.underlying0
 a0:=Tryz.isAgg0
 z0:=Tryz.sizeOf0
 v0:=Tryz.zeroValue0
 t3:=Tryz.underlying3
 a3:=Tryz.isAgg3
 z3:=Tryz.sizeOf3
 v3:=Tryz.zeroValue3
 t4:=Tryz.underlying4
 a4:=Tryz.isAgg4
 z4:=Tryz.sizeOf4
 v4:=Tryz.zeroValue4
 t5:=Tryz.underlying5
 a5:=Tryz.isAgg5
 z5:=Tryz.sizeOf5
 v5:=Tryz.zeroValue5
 t9:=Tryz.underlying9
 a9:=Tryz.isAgg9
 z9:=Tryz.sizeOf9
 v9:=Tryz.zeroValue9
 t22:=Tryz.underlying42
 a22:=Tryz.isAgg42
 z22:=Tryz.sizeOf42
 v22:=Tryz.zeroValue42
 t25:=Tryz.underlying113
 a25:=Tryz.isAgg113
 z25:=Tryz.sizeOf113
 v25:=Tryz.zeroValue113
 t39:=Tryz.underlying175
 a39:=Tryz.isAgg175
 z39:=Tryz.sizeOf175
 v39:=Tryz.zeroValue175
 t45:=Tryz.underlying206
 a45:=Tryz.isAgg206
 z45:=Tryz.sizeOf206
 v45:=Tryz.zeroValue206
 t46:=Tryz.underlying207
 a46:=Tryz.isAgg207
 z46:=Tryz.sizeOf207
 v46:=Tryz.zeroValue207
 t50:=Tryz.underlying131
 a50:=Tryz.isAgg131
 z50:=Tryz.sizeOf131
 v50:=Tryz.zeroValue131
 t53:=Tryz.underlying213
 a53:=Tryz.isAgg213
 z53:=Tryz.sizeOf213
 v53:=Tryz.zeroValue213
 t55:=Tryz.underlying44
 a55:=Tryz.isAgg44
 z55:=Tryz.sizeOf44
 v55:=Tryz.zeroValue44
 t66:=Tryz.underlying252
 a66:=Tryz.isAgg252
 z66:=Tryz.sizeOf252
 v66:=Tryz.zeroValue252
 t70:=Tryz.underlying256
 a70:=Tryz.isAgg256
 z70:=Tryz.sizeOf256
 v70:=Tryz.zeroValue256
 t76:=Tryz.underlying289
 a76:=Tryz.isAgg289
 z76:=Tryz.sizeOf289
 v76:=Tryz.zeroValue289
 t77:=Tryz.underlying36
 a77:=Tryz.isAgg36
 z77:=Tryz.sizeOf36
 v77:=Tryz.zeroValue36}
open Go Go.RowKit Go.Lib
set_option maxHeartbeats 1000000 in
theorem Vc (x:ByteArray) (w:World):Calls Tryz.prog 132 #[.string x] w fun e w'=>e=.returned (.bool false)∧w'=w:=by
 go_enter Tryz.func132,Tryz.ntmps132
 go_wp2
 go_ret
 exact⟨by simp,rfl⟩
set_option maxHeartbeats 1000000 in
theorem WK (s t:List UInt8) (w:World):Calls Tryz.prog 79 #[.string ⟨⟨s⟩⟩,.string ⟨⟨t⟩⟩] w fun e w'=>e=.returned (.int .i64 (Go.Ev.je s t))∧w'=w:=by
 go_enter Tryz.func79,Tryz.ntmps79
 go_wp2_with (go_at_call 132;refine(Vc _ _).mono ?_;rintro e w' ⟨rfl,hw⟩;rw[hw])
 all_goals (go_ret;refine⟨?_,rfl⟩;unfold Go.Ev.je)
 all_goals simp_all
set_option maxHeartbeats 1000000 in
theorem WM (s t:List UInt8) (a b c d:Value) (W:World) (_ha:a.oneCell'=true) (_hb:b.oneCell'=true) (_hc:c.oneCell'=true) (_hd:d.oneCell'=true):Calls Tryz.prog 78 #[.agg #[.string ⟨⟨s⟩⟩,a,b],.agg #[.string ⟨⟨t⟩⟩,c,d]] W fun e w'=>e=.returned (.int .i64 (Go.Ev.je s t))∧∃q os,w'=Sort.grow (W.drewN q) os:=by
 have Vd:=WK s t
 generalize Go.Ev.je s t=r at Vd⊢
 go_enter Tryz.func78,Tryz.ntmps78
 go_wp2_with (go_at_call 79;refine(Vd _).mono ?_;rintro e w' ⟨rfl,rfl⟩)
 go_ret
 exact⟨rfl,0,_,by rw[Sort.alloc_eq_grow,Sort.alloc_eq_grow,Sort.grow_grow];rfl⟩
theorem WN:∀w,(isAgg (o3.t 24)).run Tryz.prog w=.ok true w:=fun w=>Tryz.isAgg51 w
theorem WO:∀w,(Go.sizeOf (o3.t 24)).run Tryz.prog w=.ok 3 w:=fun w=>Tryz.sizeOf51 w
section
variable [Go.Ev.Env] {σ:Go.Ev.St}
theorem Ve {b n:Nat} {f:Nat→Go.Ev.V} {pY:Go.Ev.V} {q q':Go.Ev.bR} {nm:Nat→List UInt8} (hb:σ.heap.get b=some q) (KE:∀(ρ:Go.Ev.Ren) (x:Value),Go.Ev.aq ρ pY x→Go.Ev.aq ρ (.own b n 3) x)
  (hq:∀(ρ:Go.Ev.Ren) (w:World) (l:Go.Ev.Loc),Go.Ev.cz ρ w l q→Go.Ev.cz ρ w l (.row n f 3 false)) (jv:∀(ρ:Go.Ev.Ren) (w:World) (l:Go.Ev.Loc),Go.Ev.cz ρ w l (.row n (fun i=>f (Go.Ev.e9 n nm)[i]!) 3 false)→Go.Ev.cz ρ w l q')
  (hn:0<n) (nz:n<4611686018427387904) (hf:∀i,i<n→∃u v,(f i).cells=[.str (nm i),u,v]∧u.scalar=true∧v.scalar=true):
  Go.Ev.ag Tryz.prog 77 [pY,.func (.func 78) [] []] (fun v τ=>v=.tuple []∧τ=σ.set b q') σ:=
 Go.Ev.ag.WD hb KE hq jv hn nz hf zt (enters_of Tryz.func77 (by kernel_rfl) rfl) WM fun enc cf cS off cap d w h3 h1 hO hC hH hblk ba=>
  AnyQ.slices_SortFunc_eq Nu 3 WN WO enc h3 h1 cf hO 78 #[] cS off cap d w (enters_of Tryz.func78 (by kernel_rfl) rfl) hC hH hblk ba
end
end Go.Proofs.YtbajncpfmemdgaaGreatDoor
end
section
namespace Go.Proofs.YtbajncpfmemdgaaGreatDoor
open Go Go.Ev Go.IntWalk
theorem F36:bS Tryz.prog 36 Tryz.f36:=.of (by kernel_rfl) (by kernel_rfl)
noncomputable def ID (es:List aa):List V:=ar (es.map aa.enc)
theorem Nv (l:List aa):∀v∈l.map aa.enc,v.cells.length=3:=fun v hv=>by
 obtain⟨x,_,rfl⟩:=List.mem_map.1 hv;rfl
theorem CX {l:List aa} {i:Nat} (hi:i<l.length) {k:Nat} (hk:k<3):(ID l)[i*3+k]? =(aa.cells (l.getD i default))[k]? :=by
 unfold ID
 rw[fO (Nv l) (i:=i) (u:=aa.enc (l.getD i default)) (by rw[List.getElem?_map,List.getD_eq_getElem?_getD,List.getElem?_eq_getElem hi];rfl) hk];rfl
theorem IE {N:Nat} {es:List V} {i:Nat} {v:V} (h:cellOf N [] (an es .leaf 0) i=some v):i<N∧es[i]? =some v:=by
 have hi:=tj h
 refine⟨hi,?_⟩
 unfold cellOf at h
 rw[show Nat.blt i N=true by rw[Nat.blt_eq];exact hi] at h
 dsimp only at h
 rw[jH] at h
 by_cases e:0≤i∧i<0+es.length
 ·rw[if_pos e,Nat.sub_zero,List.getElem?_eq_getElem (by omega)] at h
  rw[List.getElem?_eq_getElem (by omega)];exact h
 ·rw[if_neg e,Trie.eG] at h
  exact nomatch (show(none:Option V)=some v from h)
section
variable [Env] {ρ:Go.Ev.Ren} {w:World} {l:Go.Ev.Loc}
theorem KG {n esz:Nat} {f g:Nat→V} {p:Bool} (h:cz ρ w l (.row n f esz p)) (e:∀i,i<n→f i=g i):cz ρ w l (.row n g esz false):=by
 cases h with
 | row hs hn hu hv hf hp=>exact .row hs hn (fun i hi=>by rw[←e i hi];exact hu i hi) (fun i hi=>by rw[←e i hi];exact hv i hi) hf fun h=>by cases h
theorem uq {es:List aa} {p:Bool} (h:cz ρ w l (.cells (es.length*3) [] (an (ID es) .leaf 0) p false)):cz ρ w l (.row es.length (fun i=>aa.enc (es.getD i default)) 3 false):=by
 cases h with
 | cells hs hn hv hf hp=>
  refine .row hs hn (fun i hi=>rfl) (fun i hi k v hk=>?_) (hf rfl) fun h=>by cases h
  have Yv:k<3:=(List.getElem?_eq_some_iff.1 hk).1
  exact hv _ _ (yf (by rw[CX hi Yv];exact hk) (by omega))
theorem ur {es:List aa} {p:Bool} (h:cz ρ w l (.row es.length (fun i=>aa.enc (es.getD i default)) 3 p)):cz ρ w l (.cells (es.length*3) [] (an (ID es) .leaf 0) false false):=by
 cases h with
 | row hs hn hu hv hf hp=>
  refine .cells hs hn (fun i v hi=>?_) (fun _=>hf) fun h=>by cases h
  obtain⟨h1,h2⟩:=IE hi
  have h3:i/3<es.length:=by omega
  have h4:i%3<3:=Nat.mod_lt _ (by decide)
  have e:i/3*3+i%3=i:=by omega
  have h5:=CX h3 h4
  rw[e,h2] at h5
  obtain⟨x,g1,g2⟩:=hv _ h3 _ _ h5.symm
  rw[e] at g1
  exact⟨x,g1,g2⟩
theorem Ak {b n:Nat} {x:Value} (hn:n≠0) (h:aq ρ (.slice b 0 n n false 3) x):aq ρ (.own b n 3) x:=by
 cases h with
 | slice h hex dy hN nz=>
  obtain⟨h1,h2⟩:=dy rfl
  rcases h2 with h2 | h2
  ·subst h2;exact .own h h1 hN
  ·exact absurd h2.1 hn
theorem Vf {P:Program} {f:FuncId} {vs:List V} {k:ah} {σ:St} (h:ag P f vs (fun v τ=>∃u,(∀(ρ:Go.Ev.Ren) (x:Value),aq ρ v x→aq ρ u x)∧k u τ) σ):ag P f vs k σ:=by
 refine⟨⟨?_,fun ρ w vs' hr hv=>?_⟩⟩
 ·obtain⟨⟨o,τ⟩,hx⟩:=h.h.1
  cases o with
  | val v=>obtain⟨u,_,hk⟩:=hx;exact⟨(.val u,τ),hk⟩
  | exit e a=>exact hx.elim
 ·obtain⟨g1,g2⟩:=cj.at h.h ρ w vs' hr hv
  refine⟨g1,g2.mono fun e w' hx=>?_⟩
  obtain⟨v,τ,ρ',v',h1,h2,h3,h4⟩:=hx
  obtain⟨u,g,hk⟩:=h1
  exact⟨u,τ,ρ',v',hk,h2,g _ _ h3,h4⟩
theorem QD {T:List aa} {x:Value} (h:aq ρ (af aa.enc 3 T) x):aq ρ (.bj (T.map aa.enc) 3 false) x:=by
 cases h with
 | arr hn h=>rw[lJ aa.enc T] at h;exact h
end
theorem Vg {L:List aa} (h:L.length=2):∃u w,L=[u,w]:=by
 match L,h with
 | [u,w],_=>exact⟨u,w,rfl⟩
section
variable [Env] [aE] {vs:List V} {σ:St} {k:ah}
omit [aE] in
theorem uu {b n:Nat} {pY:V} {q:bR} {L M:List aa} {q':bR} (hM:M=gb fm L) (hb:σ.heap.get b=some q) (KE:∀(ρ:Go.Ev.Ren) (x:Value),aq ρ pY x→aq ρ (.own b n 3) x) (hL:n=L.length)
  (hq:∀(ρ:Go.Ev.Ren) (w:World) (l:Go.Ev.Loc),cz ρ w l q→cz ρ w l (.row n (fun i=>aa.enc (L.getD i default)) 3 false)) (jv:∀(ρ:Go.Ev.Ren) (w:World) (l:Go.Ev.Loc),cz ρ w l (.row n (fun i=>aa.enc (M.getD i default)) 3 false)→cz ρ w l q')
  (h0:0<n) (h1:n≤1000) (hk:k (.tuple []) (σ.set b q')):ag Tryz.prog 77 [pY,.func (.func 78) [] []] k σ:=by
 subst hL hM
 refine(Ve (nm:=fun i=>fm (L.getD i default)) hb KE hq (fun ρ w l h=>jv ρ w l (KG h fun i hi=>?_)) h0 (by omega) fun i hi=>⟨_,_,rfl,rfl,rfl⟩).mono fun v τ hx=>?_
 ·rw[um fm L hi]
 ·obtain⟨rfl,rfl⟩:=hx;exact hk
omit [aE] in
theorem Vh (h:US vs σ k):ag Tryz.prog 77 vs k σ:=by
 unfold US at h
 split at h
 ·rename_i b n
  split at h
  ·rename_i m f p hb
   obtain⟨q,⟨h1,h2⟩,rfl,⟨h3,h4⟩,hk⟩:=h
   exact uu (L:=q) rfl hb (fun _ _ h=>h) h1 (fun ρ w l h=>KG h h2) (fun _ _ _ h=>h) (by omega) (by omega) hk
  ·exact h.elim
 ·rename_i b
  split at h
  ·rename_i t p hb
   obtain⟨x,rfl,hk⟩:=h
   exact uu (L:=[x]) (M:=[x]) (List.perm_singleton.1 (jQ fm [x])).symm hb (fun _ _ h=>Ak (by decide) h) rfl (fun ρ w l h=>uq (es:=[x]) h) (fun _ _ _ h=>ur (es:=[x]) h) (by decide) (by decide) hk
  ·exact h.elim
 ·rename_i b
  split at h
  ·rename_i t p hb
   obtain⟨x,y,rfl,hk⟩:=h
   obtain⟨u,w,e⟩:=Vg (ng fm [x,y])
   exact uu (L:=[x,y]) (M:=[u,w]) e.symm hb (fun _ _ h=>Ak (by decide) h) rfl (fun ρ w l h=>uq (es:=[x,y]) h) (fun _ _ _ h=>ur (es:=[u,w]) h) (by decide) (by decide) (hk u w e)
  ·exact h.elim
 ·exact h.elim
theorem QE:∀ {f:FuncId} {vs:List V} {σ:St} {k:ah},UT f vs σ k→ag Tryz.prog f vs k σ:=fun h=>aR Vh QC h
omit [aE] in
theorem Gf {ρ:Go.Ev.Ren} {T:List aa} {e:Int} {x:Value} (h:aq ρ (.tuple [af aa.enc 3 T,.int .i64 e]) x):aq ρ (.tuple [.bj (T.map aa.enc) 3 false,.int .i64 e]) x:=by
 cases h with
 | tuple h=>cases h with
  | cons h1 h2=>exact .tuple (.cons (QD h1) h2)
theorem QF (h:UU vs σ k):ag Tryz.prog 30 vs k σ:=by
 obtain⟨l,c,rfl,hp,h1,h2⟩:=h
 refine Vf (CS ⟨l,c,rfl,hp,?_⟩)
 by_cases e:cx l c=0
 ·obtain⟨h3,h4⟩:=h2 e
  have hl:=(KB l c).1
  have h0:=(ni e).2.2
  match hT:bZ l c,hl,h0 with
  | [x],_,_=>rw[e];exact⟨_,fun ρ y h=>Gf (T:=[x]) h,h3 x hT⟩
  | [x,y],_,_=>rw[e];exact⟨_,fun ρ z h=>Gf (T:=[x,y]) h,h4 x y hT⟩
 ·rw[show bZ l c=[] from if_neg e]
  exact⟨_,fun ρ y h=>h,h1 e⟩
theorem Gg:∀ {f:FuncId} {vs:List V} {σ:St} {k:ah},qi f vs σ k→ag Tryz.prog f vs k σ:=fun h=>aR QF QE h
end
end Go.Proofs.YtbajncpfmemdgaaGreatDoor
end
section
namespace Go.Proofs.YtbajncpfmemdgaaGreatDoor
open Go Go.Ev Go.IntWalk
theorem vq {l:List aa} {S:List (List UInt8)} {i:Nat} (h:fk S (l.getD i default).f0<0):dO l S (i+1)=dO l S i++[l.getD i default]:=zn (decide_eq_true h)
theorem sn {l:List aa} {S:List (List UInt8)} {i:Nat} (h:¬fk S (l.getD i default).f0<0):dO l S (i+1)=dO l S i:=wO (by rw[decide_eq_false h];exact Bool.false_ne_true)
theorem CY (l:List aa) (S:List (List UInt8)) (n:Nat):(dO l S n).length≤n:=oS _ _ _
theorem cN.cat {n:Nat} {f:Nat→V} {K T:List aa} (h:cN n f K):cN (n+T.length) (dU n f (kr (T.map aa.enc))) (K++T):=by
 obtain⟨rfl,h2⟩:=h
 refine⟨by simp,fun i hi=>?_⟩
 rw[n0]
 by_cases e:i<K.length
 ·rw[if_pos e,h2 i e]
  simp [List.getD_eq_getElem?_getD,List.getElem?_append_left e]
 ·rw[if_neg e]
  have hj:i-K.length<T.length:=by omega
  have:nth (T.map aa.enc) (i-K.length)=some (aa.enc (T.getD (i-K.length) default)):=by
   rw[dz,List.getElem?_map,List.getD_eq_getElem?_getD,List.getElem?_eq_getElem hj];rfl
  unfold kr
  rw[this]
  simp [List.getD_eq_getElem?_getD,List.getElem?_append_right (Nat.le_of_not_lt e)]
def Nw (T:List aa) (v:V):Prop:=(∃x,T=[x]∧v=.bj [aa.enc x] 3 false)∨∃x y,T=[x,y]∧v=.bj [aa.enc x,aa.enc y] 3 false
def Gh (l:List aa) (c:ak):Nat→List SV→Prop
 | 0,ss=>cx l c=0∧∃(i:Nat) (tv:V),i≤l.length∧Nw (bZ l c) tv∧((dO l (aQ c) i=[]∧ss=[.val tv,.val (af V.str 1 (aQ c)),.val .ai,.val (af aa.enc 3 l),.val (.int .i64 ((l.length:Nat):Int)),.val (.int .i64 (i:Int))])∨
   ∃n f,0<n∧cN n f (dO l (aQ c) i)∧ss=[.val tv,.val (af V.str 1 (aQ c)),.row n f 3,.val (af aa.enc 3 l),.val (.int .i64 ((l.length:Nat):Int)),.val (.int .i64 (i:Int))])
 | _,_=>False
theorem vr {l:List aa} {c:ak} (h:cx l c=0):iq l c=if 16<(jE l c).length then 2 else 0:=if_neg fun g=>g h
theorem CZ {l:List aa} {c:ak} (h:cx l c≠0):iq l c=cx l c:=if_pos h
section
variable [Env]
theorem KH (es:List aa):Go.Ev.Clean (.bj (es.map aa.enc) 3 false):=Go.Ev.Clean.bj fun v hv u hu=>by
 obtain⟨x,_,rfl⟩:=List.mem_map.1 hv
 exact aa.clean x u hu
theorem Nw.clean {T:List aa} {v:V} (h:Nw T v):Go.Ev.Clean v:=by
 rcases h with ⟨x,_,rfl⟩ | ⟨x,y,_,rfl⟩
 ·exact KH [x]
 ·exact KH [x,y]
theorem Gh.clean {l:List aa} {c:ak}:∀k ss,Gh l c k ss→∀s∈ss,s.clean
 | 0,_,⟨_,_,_,_,ht,.inl ⟨_,e⟩⟩=>by subst e;exact ax ht.clean (ax (eK _) (ax Go.Ev.Clean.ai (ax (bX l) (aF (aF bW)))))
 | 0,_,⟨_,_,_,_,ht,.inr ⟨_,_,_,hr,e⟩⟩=>by subst e;exact ax ht.clean (ax (eK _) (ax hr.cl (ax (bX l) (aF (aF bW)))))
 | n+1,_,h=>h.elim
theorem C0 {τ:St} {b m:Nat} {ex:Bool} {x y:aa} (h:τ.cells b 0 (2*3)=some (aa.cells x++aa.cells y)):dQ τ (.slice b 0 2 m ex 3) (af aa.enc 3 [x,y]):=
 .jM (.slice (es:=[aa.enc x,aa.enc y]) h (.cons (.str _) (.cons (.int _ _) (.cons (.clean (e6 x.f2)) (.cons (.str _) (.cons (.int _ _) (.cons (.clean (e6 y.f2)) .nil)))))) (fun v hv=>by
  simp only[List.mem_cons,List.not_mem_nil,or_false] at hv
  rcases hv with rfl | rfl<;>rfl) rfl)
variable {σ:St} {k:ah}
theorem Gi {l:List aa} {c:ak} (hk:k (.tuple [af aa.enc 3 (gW l c),.int .i64 (iq l c)]) σ) {e:Int} (h:iq l c=e) (h0:e≠0) {τ:St}:bk σ k (.tuple [.ai,.int .i64 e]) τ:=by
 have e':gW l c=[]:=if_neg (by rw[h];exact h0)
 rw[e',h] at hk
 exact bk.qZ Kz hk
omit [Env] in
theorem KI {l:List aa} {c:ak} (hk:k (.tuple [af aa.enc 3 (gW l c),.int .i64 (iq l c)]) σ) (h:cx l c=0) (h1:¬ 16<(jE l c).length):k (.tuple [af aa.enc 3 (gb fm (jE l c)),.int .i64 0]) σ:=by
 have e:iq l c=0:=(vr h).trans (if_neg h1)
 have e':gW l c=zu l c:=if_pos e
 rw[e,e',←Nt h] at hk
 exact hk
variable [aE] {vs:List V}
structure o4 (l:List aa) (c:ak) (i:Nat) (σ:St) (k:ah):Prop where
 h0:cx l c=0
 hi:i≤l.length
 hl:l.length≤16
 hS:(aQ c).length≤2
 IF:∀i,i<l.length→0<(l.getD i default).f2.length∧(l.getD i default).f2.length≤1000
 hk:k (.tuple [af aa.enc 3 (gW l c),.int .i64 (iq l c)]) σ
omit [Env] [aE] in
theorem uv {l:List aa} {i:Nat} (hi:i<l.length):l.length-((i:Int)+1).toNat<l.length-(i:Int).toNat:=by omega
omit [Env] [aE] in
theorem IG {S:List (List UInt8)} {s:List UInt8} (h:(!(decide (0≤fk S s)))=true):fk S s<0:=by
 rw[Bool.not_eq_true'] at h;exact Int.not_le.1 (of_decide_eq_false h)
omit [Env] [aE] in
theorem AW {S:List (List UInt8)} {s:List UInt8} (h:(!(decide (0≤fk S s)))=false):¬fk S s<0:=by
 rw[Bool.not_eq_false'] at h;exact Int.not_lt.2 (of_decide_eq_true h)
omit [Env] [aE] in
theorem o4.rep {l:List aa} {c:ak} {i n:Nat} {f:Nat→V} {T:List aa} (_h:o4 l c i σ k) (hT:bZ l c=T) (hi:¬(i:Int)<((l.length:Nat):Int)) (hr:cN n f (dO l (aQ c) i)):cN (n+T.length) (dU n f (kr (T.map aa.enc))) (jE l c):=by
 obtain rfl:i=l.length:=by have:=_h.hi;omega
 subst hT;exact hr.cat
omit [aE] in
theorem o4.fin {l:List aa} {c:ak} {i n:Nat} {f:Nat→V} {T:List aa} {τ:St} {p:Bool} (h:o4 l c i σ k) (hT:bZ l c=T) (hi:¬(i:Int)<((l.length:Nat):Int)) (hr:cN n f (dO l (aQ c) i)) (ya:¬((n+T.length:Nat):Int)>16) (hb:τ.heap.get 1=some (.row (n+T.length) (fun i=>aa.enc ((gb fm (jE l c)).getD i default)) 3 p)):bk σ k (.tuple [.own 1 (n+T.length) 3,.int .i64 0]) τ:=by
 have hu:=(h.rep hT hi hr).1
 exact bk.qZ (.cons (fS hb ⟨by rw[ng,hu],fun _ _=>rfl⟩) (.cons (.int _ _) .nil)) (KI h.hk h.h0 (by rw[←hu];omega))
omit [aE] in
theorem o4.Yx {l:List aa} {c:ak} {i n:Nat} {f:Nat→V} {T:List aa} {τ:St} (h:o4 l c i σ k) (hT:bZ l c=T) (hi:¬(i:Int)<((l.length:Nat):Int)) (hr:cN n f (dO l (aQ c) i)) (ya:((n+T.length:Nat):Int)>16):bk σ k (.tuple [.ai,.int .i64 2]) τ:=by
 have hu:=(h.rep hT hi hr).1
 exact Gi h.hk ((vr h.h0).trans (if_pos (by rw[←hu];omega))) (by decide)
omit [Env] [aE] in
theorem o4.none {l:List aa} {c:ak} {i:Nat} {T:List aa} (h:o4 l c i σ k) (hT:bZ l c=T) (h2:T.length≤2) (hi:¬(i:Int)<((l.length:Nat):Int)) (he:dO l (aQ c) i=[]):k (.tuple [af aa.enc 3 (gb fm T),.int .i64 0]) σ:=by
 obtain rfl:i=l.length:=by have:=h.hi;omega
 subst hT
 have hu:jE l c=bZ l c:=by unfold jE;rw[he];rfl
 have:=KI h.hk h.h0 (by rw[hu];omega)
 rwa [hu] at this
omit [aE] in
theorem WQ {l:List aa} {c:ak} {i:Nat} {x:aa} {ss:List SV} (R:o4 l c i σ k) (hx:bZ l c=[x]) (hI:(dO l (aQ c) i=[]∧ss=[.val (.bj [aa.enc x] 3 false),.val (af V.str 1 (aQ c)),.val .ai,.val (af aa.enc 3 l),.val (.int .i64 ((l.length:Nat):Int)),.val (.int .i64 (i:Int))])∨
   ∃n f,0<n∧cN n f (dO l (aQ c) i)∧ss=[.val (.bj [aa.enc x] 3 false),.val (af V.str 1 (aQ c)),.row n f 3,.val (af aa.enc 3 l),.val (.int .i64 ((l.length:Nat):Int)),.val (.int .i64 (i:Int))]):
  WL Tryz.prog 36 Tryz.f36 qi 0 nh (fun k' ed=>Gh l c k' ed∧l.length-cF ed<l.length-cF ss) (bk σ k) 0 ss:=by
 have h0:=R.h0
 have hi:=R.hi
 have hl:=R.hl
 have hS:=R.hS
 rcases hI with ⟨he,rfl⟩ | ⟨n,f,jU,hr,rfl⟩
 ·rw[WG]
  refine⟨rfl,av (fun a1=>⟨⟨by omega,by omega⟩,_,rfl,by omega,ae.mk (fun a2=>⟨_,rfl,R.IF i (by omega),⟨rfl,rfl,rfl⟩,?_⟩) fun a2=>?_⟩) fun a1=>⟨rfl,⟨x,rfl,?_⟩⟩⟩
  ·rw[eu] at a2⊢
   rw[i64_in ((i:Int)+1) (by omega)]
   exact⟨⟨h0,i+1,_,by omega,.inl ⟨x,hx,rfl⟩,.inr ⟨1,_,by omega,by rw[vq (IG a2),he];exact cN.one _,rfl⟩⟩,uv (by omega)⟩
  ·rw[eu] at a2
   rw[i64_in ((i:Int)+1) (by omega)]
   exact⟨⟨h0,i+1,_,by omega,.inl ⟨x,hx,rfl⟩,.inl ⟨(sn (AW a2)).trans he,rfl⟩⟩,uv (by omega)⟩
  ·have hk:=R.none hx (by first | exact Nat.le_refl 2 | exact Nat.le_succ 1) a1 he
   first
    | (rw[show gb fm [x]=[x] from List.perm_singleton.1 (jQ fm [x])] at hk
       exact bk.qZ (.cons (CP rfl) (.cons (.int _ _) .nil)) hk)
    | (rw[e] at hk
       exact bk.qZ (.cons (C0 rfl) (.cons (.int _ _) .nil)) hk)
 ·have hn:=hr.1
  have jS:=CY l (aQ c) i
  rw[WH]
  refine⟨rfl,av (fun a1=>⟨⟨by omega,by omega⟩,_,rfl,by omega,ae.mk (fun a2=>⟨_,rfl,R.IF i (by omega),⟨rfl,by omega⟩,⟨rfl,rfl⟩,?_⟩) fun a2=>⟨⟨rfl,rfl⟩,?_⟩⟩) fun a1=>⟨⟨rfl,by omega⟩,rfl,av (fun a3=>R.Yx hx a1 hr a3) fun a3=>⟨jE l c,R.rep hx a1 hr,rfl,?_,R.fin hx a1 hr a3 rfl⟩⟩⟩
  ·rw[eu] at a2⊢
   rw[i64_in ((i:Int)+1) (by omega)]
   exact⟨⟨h0,i+1,_,by omega,.inl ⟨x,hx,rfl⟩,.inr ⟨n+1,_,by omega,by rw[vq (IG a2)];exact hr.push _,rfl⟩⟩,uv (by omega)⟩
  ·rw[eu] at a2
   rw[i64_in ((i:Int)+1) (by omega)]
   exact⟨⟨h0,i+1,_,by omega,.inl ⟨x,hx,rfl⟩,.inr ⟨n,f,jU,by rw[sn (AW a2)];exact hr,rfl⟩⟩,uv (by omega)⟩
  ·have:=(R.rep hx a1 hr).1
   have h2:([x]).length≤2:=by first | exact Nat.le_refl 2 | exact Nat.le_succ 1
   omega
omit [aE] in
theorem WR {l:List aa} {c:ak} {i:Nat} {x y:aa} {ss:List SV} (R:o4 l c i σ k) (hx:bZ l c=[x,y]) (hI:(dO l (aQ c) i=[]∧ss=[.val (.bj [aa.enc x,aa.enc y] 3 false),.val (af V.str 1 (aQ c)),.val .ai,.val (af aa.enc 3 l),.val (.int .i64 ((l.length:Nat):Int)),.val (.int .i64 (i:Int))])∨
   ∃n f,0<n∧cN n f (dO l (aQ c) i)∧ss=[.val (.bj [aa.enc x,aa.enc y] 3 false),.val (af V.str 1 (aQ c)),.row n f 3,.val (af aa.enc 3 l),.val (.int .i64 ((l.length:Nat):Int)),.val (.int .i64 (i:Int))]):
  WL Tryz.prog 36 Tryz.f36 qi 0 nh (fun k' ed=>Gh l c k' ed∧l.length-cF ed<l.length-cF ss) (bk σ k) 0 ss:=by
 have h0:=R.h0
 have hi:=R.hi
 have hl:=R.hl
 have hS:=R.hS
 rcases hI with ⟨he,rfl⟩ | ⟨n,f,jU,hr,rfl⟩
 ·rw[WI]
  refine⟨rfl,av (fun a1=>⟨⟨by omega,by omega⟩,_,rfl,by omega,ae.mk (fun a2=>⟨_,rfl,R.IF i (by omega),⟨rfl,rfl,rfl⟩,?_⟩) fun a2=>?_⟩) fun a1=>⟨rfl,⟨x,y,rfl,fun u w e=>?_⟩⟩⟩
  ·rw[eu] at a2⊢
   rw[i64_in ((i:Int)+1) (by omega)]
   exact⟨⟨h0,i+1,_,by omega,.inr ⟨x,y,hx,rfl⟩,.inr ⟨1,_,by omega,by rw[vq (IG a2),he];exact cN.one _,rfl⟩⟩,uv (by omega)⟩
  ·rw[eu] at a2
   rw[i64_in ((i:Int)+1) (by omega)]
   exact⟨⟨h0,i+1,_,by omega,.inr ⟨x,y,hx,rfl⟩,.inl ⟨(sn (AW a2)).trans he,rfl⟩⟩,uv (by omega)⟩
  ·have hk:=R.none hx (by first | exact Nat.le_refl 2 | exact Nat.le_succ 1) a1 he
   first
    | (rw[show gb fm [x]=[x] from List.perm_singleton.1 (jQ fm [x])] at hk
       exact bk.qZ (.cons (CP rfl) (.cons (.int _ _) .nil)) hk)
    | (rw[e] at hk
       exact bk.qZ (.cons (C0 rfl) (.cons (.int _ _) .nil)) hk)
 ·have hn:=hr.1
  have jS:=CY l (aQ c) i
  rw[WJ]
  refine⟨rfl,av (fun a1=>⟨⟨by omega,by omega⟩,_,rfl,by omega,ae.mk (fun a2=>⟨_,rfl,R.IF i (by omega),⟨rfl,by omega⟩,⟨rfl,rfl⟩,?_⟩) fun a2=>⟨⟨rfl,rfl⟩,?_⟩⟩) fun a1=>⟨⟨rfl,by omega⟩,rfl,av (fun a3=>R.Yx hx a1 hr a3) fun a3=>⟨jE l c,R.rep hx a1 hr,rfl,?_,R.fin hx a1 hr a3 rfl⟩⟩⟩
  ·rw[eu] at a2⊢
   rw[i64_in ((i:Int)+1) (by omega)]
   exact⟨⟨h0,i+1,_,by omega,.inr ⟨x,y,hx,rfl⟩,.inr ⟨n+1,_,by omega,by rw[vq (IG a2)];exact hr.push _,rfl⟩⟩,uv (by omega)⟩
  ·rw[eu] at a2
   rw[i64_in ((i:Int)+1) (by omega)]
   exact⟨⟨h0,i+1,_,by omega,.inr ⟨x,y,hx,rfl⟩,.inr ⟨n,f,jU,by rw[sn (AW a2)];exact hr,rfl⟩⟩,uv (by omega)⟩
  ·have:=(R.rep hx a1 hr).1
   have h2:([x,y]).length≤2:=by first | exact Nat.le_refl 2 | exact Nat.le_succ 1
   omega
theorem Yy {l:List aa} {c:ak} (hp:e7 c∧c.f7.length≤1000000∧∀t∈l,dY t) (hk:k (.tuple [af aa.enc 3 (gW l c),.int .i64 (iq l c)]) σ):bH Tryz.prog 36 [af aa.enc 3 l,ak.enc c] (bk σ k) Go.Ev.start:=by
 refine(F36.j9 (live:=nh) (call:=qi) (fun h=>Gg h) 1 (by kernel_rfl) Nat.lt_wfRel.wf (fun _ ss=>l.length-cF ss) (Gh l c) Gh.clean ?_ ?_)
 ·rw[e36]
  exact⟨l,c,rfl,hp,fun h0=>⟨rfl,av (fun _=>Gi hk (CZ h0) h0) fun a=>absurd h0 a⟩,
   fun h0=>⟨fun x hx=>⟨rfl,c,rfl,h0,0,_,Nat.zero_le _,.inl ⟨x,hx,rfl⟩,.inl ⟨rfl,rfl⟩⟩,fun x y hx=>⟨rfl,c,rfl,h0,0,_,Nat.zero_le _,.inr ⟨x,y,hx,rfl⟩,.inl ⟨rfl,rfl⟩⟩⟩⟩
 ·intro j hj ss hI
  obtain rfl:j=0:=by omega
  obtain⟨h0,i,tv,hi,ht,hI⟩:=hI
  obtain⟨g2,g3⟩:=cJ (mo h0).1
  have R:o4 l c i σ k:=⟨h0,hi,g2,Nk c,fun i hi=>by
   have:=(lI (g3 _ (bf hi))).1
   obtain⟨_,h1,h2,_⟩:=this
   omega,hk⟩
  rcases ht with ⟨x,hx,rfl⟩ | ⟨x,y,hx,rfl⟩
  ·exact WQ R hx hI
  ·exact WR R hx hI
theorem Vi (h:Yw vs σ k):ag Tryz.prog 36 vs k σ:=by
 obtain⟨l,c,rfl,hp,hk⟩:=h
 exact ag.aJ (aA (bX l) (aA c.aG bm)) (Yy hp hk)
theorem QG:∀ {f:FuncId} {vs:List V} {σ:St} {k:ah},U9 f vs σ k→ag Tryz.prog f vs k σ:=fun h=>aR Vi Gg h
end
end Go.Proofs.YtbajncpfmemdgaaGreatDoor
end
section
namespace Go.Proofs.YtbajncpfmemdgaaGreatDoor
open Go Go.Ev Go.IntWalk
section
variable {α:Type} {nm:α→List UInt8} {t:α}
theorem take_one [Inhabited α] {l:List α} {i:Nat} (h:i<l.length):l.take (i+1)=l.take i++[l.getD i default]:=by
 rw[cI h,List.take_append_getElem h]
end
theorem cN.two (x y:aa):cN 2 (kr [.agg (aa.cells x),.agg (aa.cells y)]) [x,y]:=⟨rfl,fun i hi=>by
 rcases(show i=0∨i=1 by omega) with rfl | rfl<;>rfl⟩
def KJ (t x:aa):Prop:=Op.bytesLess (fm t) (fm x)=true
def Yz (l:List aa) (t:aa):Nat→List SV→Prop
 | 0,ss=>∃i:Nat,i≤l.length∧((i=0∧ss=[.val (af aa.enc 3 l),.box (aa.cells t),.val .ai,.val (.bool false),.val (.int .i64 (0:Int))])∨
   ∃(n:Nat) (f:Nat→V),0<i∧((∀x∈l.take i,¬KJ t x)∧cN n f (l.take i)∧ss=[.val (af aa.enc 3 l),.box (aa.cells t),.row n f 3,.val (.bool false),.val (.int .i64 (i:Int))]∨
    (∃x∈l.take i,KJ t x)∧cN n f (kH fm t (l.take i))∧ss=[.val (af aa.enc 3 l),.box (aa.cells t),.row n f 3,.val (.bool true),.val (.int .i64 (i:Int))]))
 | _,_=>False
section
variable [Env]
theorem Yz.clean {l:List aa} {t:aa}:∀k ss,Yz l t k ss→∀s∈ss,s.clean
 | 0,_,⟨_,_,.inl ⟨_,e⟩⟩=>by subst e;exact ax (bX l) (ax (aa.clean t) (ax Go.Ev.Clean.ai (ax (Go.Ev.Clean.bool _) (aF bW))))
 | 0,_,⟨_,_,.inr ⟨_,_,_,.inl ⟨_,hr,e⟩⟩⟩=>by subst e;exact ax (bX l) (ax (aa.clean t) (ax hr.cl (ax (Go.Ev.Clean.bool _) (aF bW))))
 | 0,_,⟨_,_,.inr ⟨_,_,_,.inr ⟨_,hr,e⟩⟩⟩=>by subst e;exact ax (bX l) (ax (aa.clean t) (ax hr.cl (ax (Go.Ev.Clean.bool _) (aF bW))))
 | n+1,_,h=>h.elim
variable [aE] {vs:List V} {σ:St} {k:ah}
def wF (T:List aa) (K:List aa):List aa:=T.foldl (fun o t=>kH fm t o) K
def YA (l:List aa) (c:ak):Nat→List SV→Prop
 | 0,ss=>cx l c=0∧∃i:Nat,i≤l.length∧((dO l (aQ c) i=[]∧ss=[.val (af aa.enc 3 l),.val (af aa.enc 3 (bZ l c)),.val (af V.str 1 (aQ c)),.val .ai,.val (.int .i64 (i:Int))])∨
   ∃n f,0<n∧cN n f (dO l (aQ c) i)∧ss=[.val (af aa.enc 3 l),.val (af aa.enc 3 (bZ l c)),.val (af V.str 1 (aQ c)),.row n f 3,.val (.int .i64 (i:Int))])
 | 1,ss=>cx l c=0∧∃i:Nat,i≤(bZ l c).length∧((wF ((bZ l c).take i) (dO l (aQ c) l.length)=[]∧ss=[.val (af aa.enc 3 (bZ l c)),.val .ai,.val (.int .i64 (i:Int))])∨
   ∃n f,cN n f (wF ((bZ l c).take i) (dO l (aQ c) l.length))∧ss=[.val (af aa.enc 3 (bZ l c)),.row n f 3,.val (.int .i64 (i:Int))])
 | _,_=>False
omit [aE] in
theorem YA.clean {l:List aa} {c:ak}:∀k ss,YA l c k ss→∀s∈ss,s.clean
 | 0,_,⟨_,_,_,.inl ⟨_,e⟩⟩=>by subst e;exact ax (bX l) (ax (bX _) (ax (eK _) (ax Go.Ev.Clean.ai (aF bW))))
 | 0,_,⟨_,_,_,.inr ⟨_,_,_,hr,e⟩⟩=>by subst e;exact ax (bX l) (ax (bX _) (ax (eK _) (ax hr.cl (aF bW))))
 | 1,_,⟨_,_,_,.inl ⟨_,e⟩⟩=>by subst e;exact ax (bX _) (ax Go.Ev.Clean.ai (aF bW))
 | 1,_,⟨_,_,_,.inr ⟨_,_,hr,e⟩⟩=>by subst e;exact ax (bX _) (ax hr.cl (aF bW))
 | n+2,_,h=>h.elim
end
end Go.Proofs.YtbajncpfmemdgaaGreatDoor
end
section
namespace Go.Ev
open Go
def fJ [Env] (us vs:List V):Prop:=∀(ρ:Ren) (xs:List Value),au ρ us xs→au ρ vs xs
def C1 (P:Program) (t:TypeId):Option (List TypeId):=
 match P.underlying t with
 | some (.struct fs)=>some (fs.toList.map (·.type))
 | _=>none
def lS (r:TypeId→List V→Prop):List TypeId→List (List V)→Prop
 | [],[]=>True
 | t::ts,p::ps=>r t p∧lS r ts ps
 | _,_=>False
section
variable [Env] {P:Program} {d:Nat} {t:TypeId} {us:List V}
theorem fJ.refl (us:List V):fJ us us:=fun _ _ h=>h
theorem fJ.append {a b c e:List V} (h:fJ a b) (k:fJ c e):fJ (a++c) (b++e):=fun ρ xs hx=>by
 have h1:=hx.take a.length
 have h2:=hx.drop a.length
 rw[List.take_left' rfl] at h1
 rw[List.drop_left' rfl] at h2
 have e:xs=xs.take a.length++xs.drop a.length:=(List.take_append_drop _ _).symm
 rw[e]
 exact(h ρ _ h1).append (k ρ _ h2)
omit [Env] in
theorem lS.of {r:TypeId→List V→Prop}:∀ {fs:List Field} {ps:List (List V)},Hc r fs ps→lS r (fs.map (·.type)) ps
 | [],[],_=>trivial
 | _::_,_::_,h=>⟨h.1,lS.of h.2⟩
omit [Env] in
theorem lS.cons {r:TypeId→List V→Prop} {t:TypeId} {ts:List TypeId} {ps:List (List V)} (h:lS r (t::ts) ps):∃p qs,ps=p::qs∧r t p∧lS r ts qs:=by
 cases ps with
 | nil=>exact h.elim
 | cons p qs=>exact⟨p,qs,rfl,h.1,h.2⟩
omit [Env] in
theorem lS.nil {r:TypeId→List V→Prop} {ps:List (List V)} (h:lS r [] ps):ps=[]:=by
 cases ps with
 | nil=>rfl
 | cons p qs=>exact h.elim
omit [Env] in
theorem b9.struct {tys:List TypeId} (ht:C1 P t=some tys) (h:b9 P d t us):∃d' ps,us=ps.flatten∧lS (b9 P d') tys ps:=by
 cases d with
 | zero=>exact h.elim
 | succ d=>
  unfold C1 at ht
  split at ht
  ·rename_i fs hu
   cases ht
   unfold b9 at h
   rw[hu] at h
   obtain⟨ps,h1,h2⟩:=h
   exact⟨d,ps,h1,lS.of h2⟩
  ·cases ht
omit [Env] in
theorem b9.int {k:IntKind} (hu:P.underlying t=some (.int k)) (h:b9 P d t us):∃n,us=[.int k n]:=by
 cases d with
 | zero=>exact h.elim
 | succ d=>unfold b9 at h;rw[hu] at h;obtain⟨n,h,_⟩:=h;exact⟨n,h⟩
omit [Env] in
theorem b9.bool (hu:P.underlying t=some .bool) (h:b9 P d t us):∃b,us=[.bool b]:=by
 cases d with
 | zero=>exact h.elim
 | succ d=>unfold b9 at h;rw[hu] at h;exact h
omit [Env] in
theorem b9.str (hu:P.underlying t=some .string) (h:b9 P d t us):∃s,us=[.str s]:=by
 cases d with
 | zero=>exact h.elim
 | succ d=>unfold b9 at h;rw[hu] at h;obtain⟨n,h,_⟩:=h;exact⟨n,h⟩
omit [Env] in
theorem nU {α:Type} [Inhabited α] (enc:α→V) (l:List α):bY l.length (fun i=>enc (l.getD i default))=l.map enc:=by
 apply List.ext_getElem?
 intro i
 by_cases h:i<l.length
 ·rw[c9 h,List.getElem?_map,List.getElem?_eq_getElem h,List.getD_eq_getElem?_getD,List.getElem?_eq_getElem h];rfl
 ·rw[List.getElem?_eq_none (by rw[aT];omega),List.getElem?_eq_none (by rw[List.length_map];omega)]
theorem b9.slice {e:TypeId} {α:Type} [Inhabited α] {enc:α→V} {esz:Nat} (hu:P.underlying t=some (.slice e)) (dC:P.cellsOf e=esz) (ba:∀a,(enc a).cells.length=esz)
  (H:∀ {d:Nat} {us:List V},b9 P d e us→∃a,fJ us (enc a).cells) (h:b9 P d t us):∃l:List α,fJ us [af enc esz l]:=by
 cases d with
 | zero=>exact h.elim
 | succ d=>
  unfold b9 at h
  rw[hu] at h
  obtain⟨es,rfl,_,Vj⟩:=h
  have key:∀es:List (List V),(∀x∈es,b9 P d e x)→∃l:List α,l.length=es.length∧∀(ρ:Ren) (ys:List Value),au ρ (ar (es.map (pZ P e))) ys→au ρ (ar (l.map enc)) ys:=by
   intro es
   induction es with
   | nil=>exact fun _=>⟨[],rfl,fun _ _ h=>h⟩
   | cons x es ih=>
    intro hx
    obtain⟨l,h1,h2⟩:=ih fun y hy=>hx y (List.mem_cons_of_mem _ hy)
    obtain⟨a,ha⟩:=H (hx x List.mem_cons_self)
    refine⟨a::l,by simp [h1],?_⟩
    have hc:=(hx x List.mem_cons_self).cells
    intro ρ ys hy
    rw[List.map_cons,bO] at hy⊢
    rw[hc] at hy
    exact fJ.append (fun ρ xs h=>ha ρ xs h) (fun ρ xs h=>h2 ρ xs h) ρ ys hy
  obtain⟨l,h1,h2⟩:=key es Vj
  refine⟨l,fun ρ xs hx=>?_⟩
  cases hx with
  | cons hx hl=>
   cases hl
   refine .cons (.arr (fun h=>by cases h) (yO (ρ':=ρ) (fun _ _ _ h=>h) (dC▸hx) (fun ys hy=>?_) ?_ ?_ fun h=>by cases h)) .nil
   ·rw[nU];exact h2 ρ ys hy
   ·rw[nU]
    intro v hv
    obtain⟨a,_,rfl⟩:=List.mem_map.1 hv
    exact ba a
   ·rw[aT,List.length_map,h1]
end
end Go.Ev
end
section
namespace Go.Proofs.YtbajncpfmemdgaaGreatDoor
open Go Go.Ev
theorem Vk {n:Int} (h:(Lit.int .u64 n).wf=true):0≤n∧n<18446744073709551616:=by
 have h:(decide (IntKind.u64.min≤n)&&decide (n≤IntKind.u64.max))=true:=h
 rw[Bool.and_eq_true,decide_eq_true_iff,decide_eq_true_iff] at h
 have h1:IntKind.u64.min=0:=by decide
 have h2:IntKind.u64.max=18446744073709551615:=by decide
 omega
def Vl (c:aj):Prop:=E8 c.f3
theorem WS {n:Int} (h:(Lit.int .i64 n).wf=true):fg n:=by
 have h:(decide (IntKind.i64.min≤n)&&decide (n≤IntKind.i64.max))=true:=h
 rw[Bool.and_eq_true,decide_eq_true_iff,decide_eq_true_iff] at h
 have h1:IntKind.i64.min= -9223372036854775808:=by decide
 have h2:IntKind.i64.max=9223372036854775807:=by decide
 unfold fg
 omega
section
variable [Env] {P:Program} {d:Nat} {t:TypeId} {us:List V}
omit [Env] in
theorem b9.Vm {k:IntKind} (hu:P.underlying t=some (.int k)) (h:b9 P d t us):∃n,us=[.int k n]∧(Lit.int k n).wf=true:=by
 cases d with
 | zero=>exact h.elim
 | succ d=>unfold b9 at h;rw[hu] at h;exact h
theorem b9.oG {e:TypeId} {α:Type} [Inhabited α] {Pr:α→Prop} {enc:α→V} {esz:Nat} (hu:P.underlying t=some (.slice e)) (dC:P.cellsOf e=esz) (ba:∀a,(enc a).cells.length=esz)
  (H:∀ {d:Nat} {us:List V},b9 P d e us→∃a,Pr a∧fJ us (enc a).cells) (h:b9 P d t us):∃l:List α,(∀x∈l,Pr x)∧fJ us [af enc esz l]:=by
 cases d with
 | zero=>exact h.elim
 | succ d=>
  unfold b9 at h
  rw[hu] at h
  obtain⟨es,rfl,_,Vj⟩:=h
  have key:∀es:List (List V),(∀x∈es,b9 P d e x)→∃l:List α,l.length=es.length∧(∀x∈l,Pr x)∧∀(ρ:Ren) (ys:List Value),au ρ (ar (es.map (pZ P e))) ys→au ρ (ar (l.map enc)) ys:=by
   intro es
   induction es with
   | nil=>exact fun _=>⟨[],rfl,fun x hx=>(by cases hx),fun _ _ h=>h⟩
   | cons x es ih=>
    intro hx
    obtain⟨l,h1,hp,h2⟩:=ih fun y hy=>hx y (List.mem_cons_of_mem _ hy)
    obtain⟨a,hpa,ha⟩:=H (hx x List.mem_cons_self)
    refine⟨a::l,by simp [h1],fun y hy=>?_,?_⟩
    ·rcases List.mem_cons.1 hy with rfl | hy
     ·exact hpa
     ·exact hp y hy
    have hc:=(hx x List.mem_cons_self).cells
    intro ρ ys hy
    rw[List.map_cons,bO] at hy⊢
    rw[hc] at hy
    exact fJ.append (fun ρ xs h=>ha ρ xs h) (fun ρ xs h=>h2 ρ xs h) ρ ys hy
  obtain⟨l,h1,hp,h2⟩:=key es Vj
  refine⟨l,hp,fun ρ xs hx=>?_⟩
  cases hx with
  | cons hx hl=>
   cases hl
   refine .cons (.arr (fun h=>by cases h) (yO (ρ':=ρ) (fun _ _ _ h=>h) (dC▸hx) (fun ys hy=>?_) ?_ ?_ fun h=>by cases h)) .nil
   ·rw[nU];exact h2 ρ ys hy
   ·rw[nU]
    intro v hv
    obtain⟨a,_,rfl⟩:=List.mem_map.1 hv
    exact ba a
   ·rw[aT,List.length_map,h1]
end
section
variable [Env]
theorem X9 {d:Nat} {us:List V} (h:b9 Tryz.prog d 9 us):∃a:(List UInt8),True∧fJ us [.str (a)]:=by
 obtain⟨n,rfl⟩:=h.str (by kernel_rfl)
 exact⟨n,trivial,fJ.refl _⟩
theorem X3 {d:Nat} {us:List V} (h:b9 Tryz.prog d 3 us):∃a:Int,fg a∧fJ us [.int .i64 (a)]:=by
 obtain⟨n,rfl,hn⟩:=b9.Vm (k:=.i64) (by kernel_rfl) h
 exact⟨n,WS hn,fJ.refl _⟩
theorem X4 {d:Nat} {us:List V} (h:b9 Tryz.prog d 4 us):∃a:Bool,True∧fJ us [.bool a]:=by
 obtain⟨n,rfl⟩:=h.bool (by kernel_rfl)
 exact⟨n,trivial,fJ.refl _⟩
theorem X44 {d:Nat} {us:List V} (h:b9 Tryz.prog d 44 us):∃a:Int,(0≤a∧a<18446744073709551616)∧fJ us [.int .u64 (a)]:=by
 obtain⟨n,rfl,hn⟩:=b9.Vm (k:=.u64) (by kernel_rfl) h
 exact⟨n,Vk hn,fJ.refl _⟩
theorem X46 {d:Nat} {us:List V} (h:b9 Tryz.prog d 46 us):∃a:ay,E8 a∧fJ us a.cells:=by
 obtain⟨d',ps,rfl,ha⟩:=h.struct (tys:=[3,3,44,9]) (by kernel_rfl)
 obtain⟨p0,_,rfl,h0,ha⟩:=ha.cons
 obtain⟨p1,_,rfl,h1,ha⟩:=ha.cons
 obtain⟨p2,_,rfl,h2,ha⟩:=ha.cons
 obtain⟨p3,_,rfl,h3,ha⟩:=ha.cons
 obtain rfl:=ha.nil
 obtain⟨a0,r0,i0⟩:=X3 h0
 obtain⟨a1,r1,i1⟩:=X3 h1
 obtain⟨a2,r2,i2⟩:=X44 h2
 obtain⟨a3,r3,i3⟩:=X9 h3
 exact⟨⟨a0,a1,a2,a3⟩,⟨r2,r1⟩,i0.append (i1.append (i2.append (i3.append (fJ.refl []))))⟩
theorem YB {d:Nat} {us:List V} (h:b9 Tryz.prog d 48 us):∃a:aj,Vl a∧fJ us a.cells:=by
 obtain⟨d',ps,rfl,ha⟩:=h.struct (tys:=[9,3,4,46]) (by kernel_rfl)
 obtain⟨p0,_,rfl,h0,ha⟩:=ha.cons
 obtain⟨p1,_,rfl,h1,ha⟩:=ha.cons
 obtain⟨p2,_,rfl,h2,ha⟩:=ha.cons
 obtain⟨p3,_,rfl,h3,ha⟩:=ha.cons
 obtain rfl:=ha.nil
 obtain⟨a0,r0,i0⟩:=X9 h0
 obtain⟨a1,r1,i1⟩:=X3 h1
 obtain⟨a2,r2,i2⟩:=X4 h2
 obtain⟨a3,r3,i3⟩:=X46 h3
 exact⟨⟨a0,a1,a2,a3⟩,r3,i0.append (i1.append (i2.append (i3.append (fJ.refl []))))⟩
theorem X49 {d:Nat} {us:List V} (h:b9 Tryz.prog d 49 us):∃a:(List aj),(∀x∈a,Vl x)∧fJ us [af aj.enc 7 (a)]:=by
 obtain⟨l,h1,h2⟩:=b9.oG (Pr:=fun x=>Vl x) (enc:=aj.enc) (esz:=7) (by kernel_rfl) (by kernel_rfl) (fun a=>aj.size a) (fun h=>YB h) h
 exact⟨l,h1,h2⟩
theorem YC {d:Nat} {us:List V} (h:b9 Tryz.prog d 51 us):∃a:aa,dY a∧fJ us a.cells:=by
 obtain⟨d',ps,rfl,ha⟩:=h.struct (tys:=[9,3,49]) (by kernel_rfl)
 obtain⟨p0,_,rfl,h0,ha⟩:=ha.cons
 obtain⟨p1,_,rfl,h1,ha⟩:=ha.cons
 obtain⟨p2,_,rfl,h2,ha⟩:=ha.cons
 obtain rfl:=ha.nil
 obtain⟨a0,r0,i0⟩:=X9 h0
 obtain⟨a1,r1,i1⟩:=X3 h1
 obtain⟨a2,r2,i2⟩:=X49 h2
 exact⟨⟨a0,a1,a2⟩,r2,i0.append (i1.append (i2.append (fJ.refl [])))⟩
theorem X42 {d:Nat} {us:List V} (h:b9 Tryz.prog d 42 us):∃a:(List aa),(∀x∈a,dY x)∧fJ us [af aa.enc 3 (a)]:=by
 obtain⟨l,h1,h2⟩:=b9.oG (Pr:=fun x=>dY x) (enc:=aa.enc) (esz:=3) (by kernel_rfl) (by kernel_rfl) (fun a=>aa.size a) (fun h=>YC h) h
 exact⟨l,h1,h2⟩
theorem X43 {d:Nat} {us:List V} (h:b9 Tryz.prog d 43 us):∃a:(List (List UInt8)),True∧fJ us [af V.str 1 (a)]:=by
 obtain⟨l,h1,h2⟩:=b9.oG (Pr:=fun _=>True) (enc:=V.str) (esz:=1) (by kernel_rfl) (by kernel_rfl) (fun a=>rfl) (fun h=>X9 h) h
 exact⟨l,trivial,h2⟩
theorem X53 {d:Nat} {us:List V} (h:b9 Tryz.prog d 53 us):∃a:ak,e7 a∧fJ us a.cells:=by
 obtain⟨d',ps,rfl,ha⟩:=h.struct (tys:=[3,9,9,9,9,9,3,43,48,51]) (by kernel_rfl)
 obtain⟨p0,_,rfl,h0,ha⟩:=ha.cons
 obtain⟨p1,_,rfl,h1,ha⟩:=ha.cons
 obtain⟨p2,_,rfl,h2,ha⟩:=ha.cons
 obtain⟨p3,_,rfl,h3,ha⟩:=ha.cons
 obtain⟨p4,_,rfl,h4,ha⟩:=ha.cons
 obtain⟨p5,_,rfl,h5,ha⟩:=ha.cons
 obtain⟨p6,_,rfl,h6,ha⟩:=ha.cons
 obtain⟨p7,_,rfl,h7,ha⟩:=ha.cons
 obtain⟨p8,_,rfl,h8,ha⟩:=ha.cons
 obtain⟨p9,_,rfl,h9,ha⟩:=ha.cons
 obtain rfl:=ha.nil
 obtain⟨a0,r0,i0⟩:=X3 h0
 obtain⟨a1,r1,i1⟩:=X9 h1
 obtain⟨a2,r2,i2⟩:=X9 h2
 obtain⟨a3,r3,i3⟩:=X9 h3
 obtain⟨a4,r4,i4⟩:=X9 h4
 obtain⟨a5,r5,i5⟩:=X9 h5
 obtain⟨a6,r6,i6⟩:=X3 h6
 obtain⟨a7,r7,i7⟩:=X43 h7
 obtain⟨a8,r8,i8⟩:=YB h8
 obtain⟨a9,r9,i9⟩:=YC h9
 exact⟨⟨a0,a1,a2,a3,a4,a5,a6,a7,a8,a9⟩,⟨r8,r9⟩,i0.append (i1.append (i2.append (i3.append (i4.append (i5.append (i6.append (i7.append (i8.append (i9.append (fJ.refl []))))))))))⟩
end
end Go.Proofs.YtbajncpfmemdgaaGreatDoor
end
