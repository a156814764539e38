/- Proved: parts of the way: BD11, BE5, BF1, BEq29, BF2, BG1, BG2, BG3. -/
import Derived.Test.YtbajncpfmemdgaaGreatDoorEvQ23
set_option linter.unusedVariables false
set_option linter.unusedSimpArgs false
section
namespace Go.Proofs.YtbajncpfmemdgaaGreatDoor
open Go Go.Ev
def GX:Nat×Nat×Value:=(0,0,.iface 292 (.agg #[.pointer (some ⟨3,179,none⟩)]))
theorem DE [Env] {P:Program} {f:FuncId} {vs:List V} {xs:List Value} {w:World} (hl:∀q∈Env.laid,w.cell? ⟨q.1,q.2.1,none⟩=some q.2.2) (hv:au (gW w) vs xs) (h:ag P f vs (fun u _=>u=.bool true) Go.Ev.start):Calls P f ⟨xs⟩ w fun e w'=>e=.returned (.bool true)∧RowKit.Below w.heap.size w w':=by
 obtain⟨_,hc⟩:=cm.at h.h (gW w) w xs (yu w hl) hv
 refine callsIn_wide.1 (hc.mono fun e w' hp=>?_)
 obtain⟨v',σ',ρ',x',h1,rfl,h2,h3⟩:=hp
 have h1:v'=.bool true:=h1
 subst h1
 cases h2
 refine⟨rfl,h3.os,h3.tape,h3.output,h3.size,fun k hk=>h3.aJ k hk ?_⟩
 rintro⟨b,k,l,hb,_⟩
 rw[eA] at hb
 cases hb
theorem Rr:ko Tryz.prog 12 42=true:=by kernel_rfl
theorem Rs:ko Tryz.prog 12 53=true:=by kernel_rfl
theorem Lm [Env] {P:Program} {t:TypeId} {k:Nat} {A:List V→Prop} (hp:ko P k t=true) (hX:∀ {us:List V},cb P k t us→∃vs,A vs∧fO us vs)
  {H:Type} {enc:TypeId×Value→H} {W:World} {cs:List Value} {d:DataW H} {p:List MemPlace} (h:DataW.Trod enc P W 0 (fun _=>true) true t (.agg ⟨cs⟩) d p):∃vs,A vs∧aq (gW W) (.agg vs) (.agg ⟨cs⟩):=by
 obtain⟨fuel,h⟩:=h
 obtain⟨us,h1,h2⟩:=vl k hp h
 obtain⟨vs,h3,h4⟩:=hX h2
 exact⟨vs,h3,.agg (h4 _ _ h1)⟩
theorem Ln [Env] {P:Program} {t:TypeId} {k:Nat} {A:V→Prop} (hp:ko P k t=true) (hX:∀ {us:List V},cb P k t us→∃u,A u∧fO us [u])
  {H:Type} {enc:TypeId×Value→H} {W:World} {v:Value} {d:DataW H} {p:List MemPlace} (hv:v.oneCell'=true) (h:DataW.Trod enc P W 0 (fun _=>true) true t v d p):∃u,A u∧aq (gW W) u v:=by
 obtain⟨fuel,h⟩:=h
 obtain⟨us,h1,h2⟩:=vl k hp h
 have hc:v.cells.toList=[v]:=by cases v<;>first | rfl | cases hv
 rw[hc] at h1
 obtain⟨u,h3,h4⟩:=hX h2
 cases h4 _ _ h1 with
 | cons h5 h6=>exact⟨u,h3,h5⟩
theorem abE [Env] {k:Nat} {us:List V} (h:cb Tryz.prog k 42 us):∃u,(∃l:List aa,(∀t∈l,dz t)∧u=ae aa.enc 3 l)∧fO us [u]:=by
 obtain⟨l,h1,h2⟩:=X42 h
 exact⟨_,⟨l,h1,rfl⟩,h2⟩
theorem abF [Env] {k:Nat} {us:List V} (h:cb Tryz.prog k 53 us):∃vs,(∃c:ak,fi c∧vs=c.cells)∧fO us vs:=by
 obtain⟨a,h1,h2⟩:=X53 h
 exact⟨_,⟨a,h1,rfl⟩,h2⟩
end Go.Proofs.YtbajncpfmemdgaaGreatDoor
end
section
namespace Go.Proofs.YtbajncpfmemdgaaGreatDoor
open Go Go.Ev Go.IntWalk
theorem Lo (l:List aa) (c:ak):(dS l c).length≤1000∧∀t∈dS l c,Jg t:=by
 by_cases h:jk l c=0
 ·have e:dS l c=xw l c:=if_pos h
  rw[e]
  have h0:ct l c=0:=Classical.byContradiction fun g=>g (by rw[xy g] at h;exact h)
  obtain⟨g1,g2,_⟩:=gg.1 (iV h0).1
  obtain⟨t1,t2⟩:=ui l c
  have hp:=pU l c
  refine⟨?_,fun t ht=>?_⟩
  ·have h1:=hp.length_eq
   have h2:=xx l (aK c) l.length
   unfold j8 at h1
   rw[List.length_append] at h1
   omega
  ·rcases List.mem_append.1 (hp.mem_iff.1 ht) with hm | hm
   ·have:=(lX (g2 t ((pe l _).subset hm))).1
    obtain⟨_,h1,h2,_⟩:=this
    exact⟨by omega,by omega⟩
   ·exact t2 t hm
 ·have e:dS l c=[]:=if_neg h
  rw[e]
  exact⟨Nat.zero_le _,fun t ht=>by cases ht⟩
section
variable [Env] [aC] {vs:List V} {σ:St} {k:ah}
def ZT (n:Nat) (v:V):Prop:=v=.int .i64 0∨(v=.int .i64 1∧n≤20)
omit [aC] in
theorem ZT.gb {n:Nat}:∀v,ZT n v→dG v:=fun v h=>by
 rcases h with rfl | ⟨rfl,_⟩
 ·exact dG.int _ _
 ·exact dG.int _ _
theorem Rt (h:VY vs σ k):ag Tryz.prog 27 vs k σ:=by
 obtain⟨l,rfl,h0,h1⟩:=h
 have hc:Go.Ev.Clean (ae aa.enc 3 l):=bK l
 refine ag.aT (A:=ZT l.length) (tZ hc) ZT.gb ?_ fun v hv=>by
  rcases hv with rfl | ⟨rfl,h⟩
  ·exact h0
  ·exact h1 h
 by_cases hl:l.length≤20
 ·refine F27.cx (live:=rf) (call:=ud) (n₀:=0) (fun h=>rh h) rfl 1 (by kernel_rfl) Nat.lt_wfRel.wf (fun _ ss=>30-cu ss) (KJ aa.enc 3 l) (pM hc) ?_ ?_
  ·rw[Ko]
   exact⟨rfl,af.mk (fun e=>absurd (of_decide_eq_true e) (by omega)) fun _=>⟨0,by omega,by omega,rfl⟩⟩
  ·intro k hk ss hI
   obtain rfl:k=0:=by omega
   obtain⟨i,h0,h1,rfl⟩:=hI
   rw[Zd]
   refine⟨rfl,af.mk (fun e=>?_) fun _=>.inr ⟨rfl,hl⟩⟩
   have e:=of_decide_eq_true e
   refine⟨⟨h0,e⟩,⟨_,rfl⟩,⟨rfl,.inl rfl⟩,rfl,⟨i+1,by omega,by omega,by rw[i64_in _ (by omega)]⟩,?_⟩
   rw[i64_in _ (by omega),iD,iD]
   show 30-(i+1).toNat<30-i.toNat
   omega
 ·refine F27.cx (live:=rf) (call:=ud) (n₀:=0) (fun h=>rh h) rfl 1 (by kernel_rfl) Nat.lt_wfRel.wf (fun _ _=>0) (fun _ _=>False) (fun _ _ h=>h.elim) ?_ fun _ _ _ h=>h.elim
  rw[Ko]
  exact⟨rfl,af.mk (fun _=>.inl rfl) fun e=>absurd (of_decide_eq_false e) (by omega)⟩
theorem Ru:∀ {f:FuncId} {vs:List V} {σ:St} {k:ah},VZ f vs σ k→ag Tryz.prog f vs k σ:=fun h=>aP Rt Rq h
end
end Go.Proofs.YtbajncpfmemdgaaGreatDoor
end
section
namespace Go.Proofs.YtbajncpfmemdgaaGreatDoor
open Go Go.Ev Go.IntWalk
def Lp (c:aj):List UInt8:=c.f0
theorem Oe {α:Type} [Inhabited α] {nm:α→List UInt8} {l:List α} {s:List UInt8}:cd s (fun i=>nm (l.getD i default)) l.length<0↔∀x∈l,nm x≠s:=by
 rcases hG s (fun i=>nm (l.getD i default)) l.length with ⟨h1,h2⟩ | ⟨i,h1,h2,h3,_⟩
 ·rw[h1]
  refine⟨fun _ t hm=>?_,fun _=>by decide⟩
  obtain⟨i,hi,e⟩:=List.mem_iff_getElem.1 hm
  have:=h2 i hi
  rw[cI hi,e] at this;exact this
 ·rw[h1]
  refine⟨fun h=>by omega,fun h=>absurd ?_ (h l[i] (List.getElem_mem h2))⟩
  rw[←h3,cI h2]
theorem DF {α:Type} [Inhabited α] {nm:α→List UInt8} {l:List α} {s:List UInt8} (h:0≤cd s (fun i=>nm (l.getD i default)) l.length):∃i:Nat,cd s (fun i=>nm (l.getD i default)) l.length=i∧i<l.length∧nm (l.getD i default)=s:=by
 rcases hG s (fun i=>nm (l.getD i default)) l.length with ⟨h1,_⟩ | ⟨i,h1,h2,h3,_⟩
 ·rw[h1] at h;exact absurd h (by decide)
 ·exact⟨i,h1,h2,h3⟩
theorem Of {α:Type} [Inhabited α] {nm:α→List UInt8} {l:List α} (h:ma nm l) {i j:Nat} (hi:i<l.length) (hj:j<l.length) (e:nm (l.getD i default)=nm (l.getD j default)):i=j:=by
 rw[cI hi,cI hj] at e
 rcases Nat.lt_trichotomy i j with g | g | g
 ·exact absurd e (List.pairwise_iff_getElem.1 h i j hi hj g)
 ·exact g
 ·exact absurd e.symm (List.pairwise_iff_getElem.1 h j i hj hi g)
theorem jX {t:aa}:bu t=0↔vr t∧(∀x∈t.f2,bR x=0)∧ma Lp t.f2∧∀i,i<t.f1.toNat→(t.f2.getD i default).f2=false:=by
 have hu:gX (fun i=>(t.f2.getD i default).f0) t.f2.length=true↔ma Lp t.f2:=by
  rw[pI]
  constructor
  ·intro h
   refine List.pairwise_iff_getElem.2 fun i j hi hj jH=>?_
   have:=h i j jH hj
   rwa [cI hi,cI hj] at this
  ·intro h i j jH hj
   have hi:i<t.f2.length:=by omega
   rw[cI hi,cI hj]
   exact List.pairwise_iff_getElem.1 h i j hi hj jH
 have hn:eS (fun i=>t.f2.getD i default) t.f1.toNat=true↔¬ ∀i,i<t.f1.toNat→(t.f2.getD i default).f2=false:=by
  rw[mZ]
  constructor
  ·rintro⟨i,h1,h2⟩ h
   rw[h i h1] at h2;cases h2
  ·intro h
   refine Classical.byContradiction fun g=>h fun i hi=>?_
   cases e:(t.f2.getD i default).f2 with
   | false=>rfl
   | true=>exact absurd ⟨i,hi,e⟩ g
 have hc:c9 (fun i=>bR (t.f2.getD i default)) t.f2.length=0↔∀x∈t.f2,bR x=0:=by
  rw[ca]
  constructor
  ·intro h x hx
   obtain⟨i,hi,e⟩:=List.mem_iff_getElem.1 hx
   have:=h i hi
   rwa [cI hi,e] at this
  ·intro h i hi
   exact h _ (ba hi)
 constructor
 ·intro h
  have hT:=(lX h).1
  rw[hT.err] at h
  by_cases h1:c9 (fun i=>bR (fU t i)) t.f2.length≠0
  ·rw[if_pos h1] at h;exact absurd h h1
  ·rw[if_neg h1] at h
   by_cases h2:gX (fun i=>(fU t i).f0) t.f2.length=false
   ·rw[if_pos h2] at h;cases h
   ·rw[if_neg h2] at h
    by_cases h3:eS (fU t) t.f1.toNat=true
    ·rw[if_pos h3] at h;cases h
    ·exact⟨hT,hc.1 (Decidable.not_not.1 h1),hu.1 (by
      cases e:gX (fun i=>(t.f2.getD i default).f0) t.f2.length with
      | true=>rfl
      | false=>exact absurd e h2),Classical.not_not.1 fun g=>h3 (hn.2 g)⟩
 ·rintro⟨hT,h1,h2,h3⟩
  rw[hT.err,if_neg (fun g=>g (hc.2 h1)),if_neg,if_neg]
  ·exact fun g=>hn.1 g h3
  ·rw[show(fun i=>(fU t i).f0)=fun i=>(t.f2.getD i default).f0 from rfl,hu.2 h2]
   exact Bool.noConfusion
theorem Lq {t:aa} {c:aj} (h:ql t c=0):bR c=0∧(∀x∈t.f2,x.f0≠c.f0)∧t.f2.length<8:=by
 unfold ql at h
 by_cases h1:bR c≠0
 ·rw[if_pos h1] at h;exact absurd h h1
 ·rw[if_neg h1] at h
  by_cases h2:0≤bw t c.f0
  ·rw[if_pos h2] at h;cases h
  ·rw[if_neg h2] at h
   by_cases h3:8≤t.f2.length
   ·rw[if_pos h3] at h;cases h
   ·exact⟨Decidable.not_not.1 h1,Oe.1 (Int.not_le.1 h2),by omega⟩
theorem Rv {t:aa} {c:aj} (ht:bu t=0) (h:ql t c=0):bu (zO t c)=0:=by
 obtain⟨⟨a1,a2,a3,a4,a5⟩,b,d,e⟩:=jX.1 ht
 obtain⟨h1,h2,h3⟩:=Lq h
 have hl:(zO t c).f2.length=t.f2.length+1:=by show(t.f2++[c]).length=_;simp
 refine jX.2 ⟨⟨a1,by omega,a3,a4,by rw[hl];show t.f1≤_;omega⟩,fun x hx=>?_,?_,fun i hi=>?_⟩
 ·rcases List.mem_append.1 hx with hx | hx
  ·exact b x hx
  ·rw[List.mem_singleton.1 hx];exact h1
 ·refine List.pairwise_append.2 ⟨d,List.pairwise_singleton _ _,fun x hx y hy=>?_⟩
  rw[List.mem_singleton.1 hy];exact h2 x hx
 ·have hi:i<t.f1.toNat:=hi
  have:(zO t c).f2.getD i default=t.f2.getD i default:=by
   show(t.f2++[c]).getD i default=_
   rw[List.getD_eq_getElem?_getD,List.getD_eq_getElem?_getD,List.getElem?_append_left (by omega)]
  rw[this];exact e i hi
theorem DG {l:List aa} (h:fk fp l) {s t:aa} (hs:s∈l) (ht:t∈l) (e:s.f0=t.f0):s=t:=by
 obtain⟨i,hi,rfl⟩:=List.mem_iff_getElem.1 hs
 obtain⟨j,hj,rfl⟩:=List.mem_iff_getElem.1 ht
 have:i=j:=Of h.apart hi hj (by rw[cI hi,cI hj];exact e)
 subst this;rfl
theorem sH {l:List aa} {s:List UInt8} (h:0≤aW l s):aX l s∈l∧(aX l s).f0=s:=by
 obtain⟨i,h1,h2,h3⟩:=DF (nm:=fp) h
 have h1:aW l s=i:=h1
 unfold aX
 rw[h1]
 exact⟨ba (by omega),h3⟩
theorem Lr {l:List aa} (h:fk fp l) {t:aa} (ht:t∈l):l.Perm (cZ l [t.f0] l.length++[t]):=by
 rw[iW]
 have h1:∀x:aa,decide (eT [t.f0] x.f0<0)= !decide (x.f0=t.f0):=fun x=>by
  by_cases e:x.f0=t.f0
  ·rw[decide_eq_true e,decide_eq_false (fun g=>iu.1 g (by rw[e];exact List.mem_singleton.2 rfl))];rfl
  ·rw[decide_eq_false e,decide_eq_true (iu.2 fun g=>e (List.mem_singleton.1 g))];rfl
 rw[show(fun x:aa=>decide (eT [t.f0] x.f0<0))=fun x=> !decide (x.f0=t.f0) from funext h1]
 have h2:l.filter (fun x=>decide (x.f0=t.f0))=[t]:=by
  refine uj fp ?_ (List.Pairwise.sublist List.filter_sublist h) (List.pairwise_singleton _ _)
  refine(List.perm_ext_iff_of_nodup ?_ (List.pairwise_singleton _ _)).2 fun x=>?_
  ·exact List.Pairwise.imp (fun g e=>by rw[e] at g;exact g rfl) (List.Pairwise.sublist List.filter_sublist h.apart)
  ·rw[List.mem_filter,List.mem_singleton]
   exact⟨fun⟨g1,g2⟩=>DG h g1 ht (of_decide_eq_true g2),fun e=>by subst e;exact⟨ht,decide_eq_true rfl⟩⟩
 have:=List.filter_append_perm (fun x:aa=>decide (x.f0=t.f0)) l
 rw[h2] at this
 exact(this.symm.trans (List.perm_append_comm))
theorem sI {l:List aa} {c:ak} (h:jk l c=0):ct l c=0∧(j8 l c).length≤16∧dS l c=xw l c:=by
 have h0:ct l c=0:=Classical.byContradiction fun g=>g (by rw[xy g] at h;exact h)
 refine⟨h0,?_,if_pos h⟩
 rw[zX h0] at h
 exact Nat.not_lt.1 fun g=>by rw[if_pos g] at h;cases h
theorem Ls {l:List aa} {c:ak} (h:jk l c=0) (hT:∀t∈bY l c,bu t=0):cn (dS l c)=0:=by
 obtain⟨h0,h1,h2⟩:=sI h
 obtain⟨_,g2,_⟩:=gg.1 (iV h0).1
 have hp:=pU l c
 rw[h2]
 refine gg.2 ⟨by rw[hp.length_eq];exact h1,fun t ht=>?_,Eh h0⟩
 rcases List.mem_append.1 (hp.mem_iff.1 ht) with hm | hm
 ·exact g2 t ((pe l _).subset hm)
 ·exact hT t hm
theorem Lt {l:List aa} {s:List UInt8}:eB l [s]=0↔0≤aW l s:=by
 unfold eB
 rw[ca]
 constructor
 ·intro h
  have h:(if aW l s<0 then(9:Int) else 0)=0:=h 0 (Nat.zero_lt_one)
  exact Int.not_lt.1 fun g=>by rw[if_pos g] at h;cases h
 ·intro h i hi
  obtain rfl:=Nat.lt_one_iff.1 hi
  exact if_neg (Int.not_lt.2 h)
end Go.Proofs.YtbajncpfmemdgaaGreatDoor
end
section
namespace Go.Proofs.YtbajncpfmemdgaaGreatDoor
open Go Go.Ev
def Wb [Env] (vs:List V) (σ:St) (k:ah):Prop:=
 ∃(l:List aa) (c:ak),vs=[ae aa.enc 3 l,ak.enc c]∧(fi c∧c.f7.length≤1000000∧∀t∈l,dz t)∧k (.tuple [ae aa.enc 3 (bY l c),.int .i64 (ct l c)]) σ
def Wc [Env]:=kS 30 Wb VZ
def Wd [Env] (vs:List V) (σ:St) (k:ah):Prop:=
 ∃(l:List aa) (c:ak),bn Go.Ev.start vs [ae aa.enc 3 l,ak.enc c]∧(fi c∧c.f7.length≤1000000∧∀t∈l,dz t)∧k (.tuple [ae aa.enc 3 (dS l c),.int .i64 (jk l c)]) σ
def We [Env]:=kS 36 Wd Wc
def Wf [Env] (vs:List V) (σ:St) (k:ah):Prop:=
 ∃x y:List aa,bn Go.Ev.start vs [ae aa.enc 3 x,ae aa.enc 3 y]∧(x.length≤1000000∧∀t∈x,t.f2.length≤1000000)∧∀b:Bool,(b=true↔x=y)→k (.bool b) σ
def zY [Env]:=kS 32 Wf We
def yO:Nat→List Nat:=(fun i=>match i with | 0=>[0,5,7,9,10] | 1=>[5,7,12] | _=>[])
theorem e7 [Env] (A:Nat→List SV→Prop) (Q:V→Prop) (l:List aa) (c:ak):WE Tryz.prog 7 Tryz.f7 zY 0 yO A (fun v _=>Q v) [ae aa.enc 3 l,ak.enc c] Go.Ev.start=
  ((∃Wg:List aa,[ae aa.enc 3 l]=[ae aa.enc 3 Wg]∧((.i64:IntKind)=.i64∧(([]:List V)=[]∧Q (.bool true)))∧(Wg.length≤20→((.i64:IntKind)=.i64∧(∃Wi:ak,[.agg (ak.cells c)]=[ak.enc Wi]∧((.i64:IntKind)=.i64∧(([]:List V)=[]∧Q (.bool true)))∧(Wi.f7.length≤60→((.i64:IntKind)=.i64∧(∃(xz:List aa) (uw:ak),bn Go.Ev.start [ae aa.enc 3 l,.agg (ak.cells c)] [ae aa.enc 3 xz,ak.enc uw]∧(fi uw∧uw.f7.length≤1000000∧∀t∈xz,dz t)∧((.i64:IntKind)=.i64∧af (decide ((jk xz uw)≠(0:Int))) (((.i64:IntKind)=.i64∧af (decide ((((((dS xz uw)).length:Nat):Int))=(0:Int))) ((([]:List V)=[]∧Q (.bool true))) (Q (.bool false)))) ((∃(DH:List aa) (zZ:ak),[ae aa.enc 3 l,.agg (ak.cells c)]=[ae aa.enc 3 DH,ak.enc zZ]∧(fi zZ∧zZ.f7.length≤1000000∧∀t∈DH,dz t)∧(∃Og:ak,[.agg (ak.cells c)]=[ak.enc Og]∧(∃Oh:List aa,[ae aa.enc 3 ((dS xz uw))]=[ae aa.enc 3 Oh]∧(∀t∈Oh,gH t)∧((.i64:IntKind)=.i64∧af (decide ((cn Oh)≠(0:Int))) (Q (.bool false)) (((.i64:IntKind)=.i64∧af (decide ((ct DH zZ)≠(0:Int))) (Q (.bool false)) (((.i64:IntKind)=.i64∧af (decide ((((((dS xz uw)).length:Nat):Int))≠(IntKind.i64.wrap ((IntKind.i64.wrap ((((l.length:Nat):Int))-(((((aK Og)).length:Nat):Int))))+(((((bY DH zZ)).length:Nat):Int)))))) (Q (.bool false)) (A 0 [.val (ae aa.enc 3 l),.val (ae aa.enc 3 ((dS xz uw))),.val (ae aa.enc 3 ((bY DH zZ))),.val (ae V.str 1 ((aK Og))),.val (.int .i64 (0:Int))]))))))))))))))))))):=by kernel_rfl
theorem r7a [Env] (A:Nat→List SV→Prop) (Q:V→Prop) (l m o:List aa) (s:List (List UInt8)) (n:Int):WL Tryz.prog 7 Tryz.f7 zY 0 yO A (fun v _=>Q v) 0 [.val (ae aa.enc 3 l),.val (ae aa.enc 3 m),.val (ae aa.enc 3 o),.val (ae V.str 1 s),.val (.int .i64 n)]=
  (((.i64:IntKind)=.i64∧af (decide (n<(((l.length:Nat):Int)))) (((0≤n∧n<((l.length:Nat):Int))∧(∃(qu:List aa) (sJ:List UInt8),[ae aa.enc 3 m,.str ((l.getD n.toNat default).f0)]=[ae aa.enc 3 qu,.str sJ]∧qu.length≤1000000∧((0≤n∧n<((l.length:Nat):Int))∧(∃q:Nat→List UInt8,(fun i=>V.str (s.getD i default))=(fun i=>V.str (q i))∧s.length≤1000000∧((.i64:IntKind)=.i64∧af (decide ((cd ((l.getD n.toNat default).f0) q s.length)<(0:Int))) (((.i64:IntKind)=.i64∧af (decide ((aW qu sJ)<(0:Int))) (Q (.bool false)) (((0≤(aW qu sJ)∧(aW qu sJ)≤(IntKind.i64.wrap ((aW qu sJ)+(1:Int)))∧(IntKind.i64.wrap ((aW qu sJ)+(1:Int)))≤((m.length:Nat):Int)∧((m.length:Nat):Int)≤((m.length:Nat):Int))∧((0≤n∧n≤(IntKind.i64.wrap (n+(1:Int)))∧(IntKind.i64.wrap (n+(1:Int)))≤((l.length:Nat):Int)∧((l.length:Nat):Int)≤((l.length:Nat):Int))∧(∃Js Wj:List aa,bn Go.Ev.start [V.arr ((IntKind.i64.wrap ((aW qu sJ)+(1:Int))).toNat-(aW qu sJ).toNat) (fun i=>aa.enc ((fun i=>m.getD (Nat.add (aW qu sJ).toNat i) default) i)) 3 false false,V.arr ((IntKind.i64.wrap (n+(1:Int))).toNat-n.toNat) (fun i=>aa.enc ((fun i=>l.getD (Nat.add n.toNat i) default) i)) 3 false false] [ae aa.enc 3 Js,ae aa.enc 3 Wj]∧(Js.length≤1000000∧∀t∈Js,t.f2.length≤1000000)∧∀Wk:Bool,(Wk=true↔Js=Wj)→af ((!Wk)) (Q (.bool false)) (A 0 [.val (ae aa.enc 3 l),.val (ae aa.enc 3 m),.val (ae aa.enc 3 o),.val (ae V.str 1 s),.val (.int .i64 (IntKind.i64.wrap (n+(1:Int))))]))))))) (A 0 [.val (ae aa.enc 3 l),.val (ae aa.enc 3 m),.val (ae aa.enc 3 o),.val (ae V.str 1 s),.val (.int .i64 (IntKind.i64.wrap (n+(1:Int))))]))))))) (A 1 [.val (ae aa.enc 3 m),.val (ae aa.enc 3 o),.val (.int .i64 (0:Int))]))):=by kernel_rfl
theorem r7b [Env] (A:Nat→List SV→Prop) (Q:V→Prop) (m o:List aa) (n:Int):WL Tryz.prog 7 Tryz.f7 zY 0 yO A (fun v _=>Q v) 1 [.val (ae aa.enc 3 m),.val (ae aa.enc 3 o),.val (.int .i64 n)]=
  (((.i64:IntKind)=.i64∧af (decide (n<(((o.length:Nat):Int)))) (((0≤n∧n<((o.length:Nat):Int))∧(∃(qv:List aa) (sK:List UInt8),[ae aa.enc 3 m,.str ((o.getD n.toNat default).f0)]=[ae aa.enc 3 qv,.str sK]∧qv.length≤1000000∧((.i64:IntKind)=.i64∧af (decide ((aW qv sK)<(0:Int))) (Q (.bool false)) (((0≤(aW qv sK)∧(aW qv sK)≤(IntKind.i64.wrap ((aW qv sK)+(1:Int)))∧(IntKind.i64.wrap ((aW qv sK)+(1:Int)))≤((m.length:Nat):Int)∧((m.length:Nat):Int)≤((m.length:Nat):Int))∧((0≤n∧n≤(IntKind.i64.wrap (n+(1:Int)))∧(IntKind.i64.wrap (n+(1:Int)))≤((o.length:Nat):Int)∧((o.length:Nat):Int)≤((o.length:Nat):Int))∧(∃Jt Wl:List aa,bn Go.Ev.start [V.arr ((IntKind.i64.wrap ((aW qv sK)+(1:Int))).toNat-(aW qv sK).toNat) (fun i=>aa.enc ((fun i=>m.getD (Nat.add (aW qv sK).toNat i) default) i)) 3 false false,V.arr ((IntKind.i64.wrap (n+(1:Int))).toNat-n.toNat) (fun i=>aa.enc ((fun i=>o.getD (Nat.add n.toNat i) default) i)) 3 false false] [ae aa.enc 3 Jt,ae aa.enc 3 Wl]∧(Jt.length≤1000000∧∀t∈Jt,t.f2.length≤1000000)∧∀Wm:Bool,(Wm=true↔Jt=Wl)→af ((!Wm)) (Q (.bool false)) (A 1 [.val (ae aa.enc 3 m),.val (ae aa.enc 3 o),.val (.int .i64 (IntKind.i64.wrap (n+(1:Int))))]))))))))) ((([]:List V)=[]∧Q (.bool true))))):=by kernel_rfl
end Go.Proofs.YtbajncpfmemdgaaGreatDoor
end
section
namespace Go.Proofs.YtbajncpfmemdgaaGreatDoor
open Go Go.Ev Go.IntWalk
section
variable [Env] [aC] {vs:List V} {σ:St} {k:ah}
theorem Rw (h:Wb vs σ k):ag Tryz.prog 30 vs k σ:=Dw h
theorem Rx:∀ {f:FuncId} {vs:List V} {σ:St} {k:ah},Wc f vs σ k→ag Tryz.prog f vs k σ:=fun h=>aP Rw Ru h
theorem Ry (h:Wd vs σ k):ag Tryz.prog 36 vs k σ:=by
 obtain⟨l,c,hf,hp,hk⟩:=h
 exact ag.aJ hf (Zv hp hk)
theorem Rz:∀ {f:FuncId} {vs:List V} {σ:St} {k:ah},We f vs σ k→ag Tryz.prog f vs k σ:=fun h=>aP Ry Rx h
omit [Env] [aC] in
theorem RA {l:List aa} {c:ak} (hl:∀t∈l,dz t) (h:jk l c=0) (hT:∀t∈bY l c,dz t):∀t∈dS l c,dz t:=fun t ht=>by
 obtain⟨_,_,h2⟩:=sI h
 rw[h2] at ht
 rcases List.mem_append.1 ((pU l c).mem_iff.1 ht) with hm | hm
 ·exact hl t ((pe l _).subset hm)
 ·exact hT t hm
end
end Go.Proofs.YtbajncpfmemdgaaGreatDoor
end
section
namespace Go.Proofs.YtbajncpfmemdgaaGreatDoor
open Go Go.Ev Go.IntWalk Go.Ev.Flt
open Ieee (double signed Datum)
theorem vK:∀(n:Nat) (s:List UInt8),s.length≤n→(∀c∈s,c.toNat<128)→eU n s=true
 | 0,s,h,_=>by
  obtain rfl:=List.eq_nil_of_length_eq_zero (Nat.le_zero.1 h);rfl
 | n+1,[],_,_=>rfl
 | n+1,c::s,h,hc=>by
  have h1:aH (c::s) 0=(c.toNat:Int):=sw c s
  have h2:=hc c List.mem_cons_self
  have hw:iB (aH (c::s) 0)=1:=by rw[h1];exact if_pos (by omega)
  have hn:cW (c::s)=1:=by
   unfold cW
   rw[if_neg (by simp),hw]
   exact if_pos rfl
  show(if (c::s).length=0 then true else if cW (c::s)=0 then false else eU n ((c::s).drop (cW (c::s)).toNat))=true
  rw[if_neg (by simp),hn,if_neg (by decide)]
  exact vK n s (Nat.le_of_succ_le_succ h) fun x hx=>hc x (List.mem_cons_of_mem _ hx)
theorem DI:∀(f m:Nat),m<10^(f+1)→(∀c∈eO f m,c.toNat<128)∧(eO f m).length≤f+1
 | f,m,h=>by
  have one:∀ {x:Nat},x<10→∀c∈[byteOf ((48+x:Nat):Int)],c.toNat<128:=fun {x} hx c hc=>by
   rw[List.mem_singleton.1 hc]
   have:=pL (x:=((48+x:Nat):Int)) (by omega) (by omega)
   omega
  by_cases kg:m<10
  ·rw[sv f kg]
   exact⟨one kg,by show 1≤f+1;omega⟩
  ·match f with
   | 0=>exact absurd h (by omega)
   | f+1=>
    rw[show eO (f+1) m=eO f (m/10)++[byteOf ((48+m%10:Nat):Int)] by rw[eO,if_neg kg]]
    obtain⟨g1,g2⟩:=DI f (m/10) (Nat.div_lt_of_lt_mul (by rw[Nat.pow_succ] at h;omega))
    refine⟨fun c hc=>?_,by rw[List.length_append,List.length_singleton];omega⟩
    rcases List.mem_append.1 hc with hc | hc
    ·exact g1 c hc
    ·exact one (Nat.mod_lt m (by decide)) c hc
theorem Oi {n:Int} (h:dH n):(∀c∈gx n,c.toNat<128)∧(gx n).length≤64:=by
 obtain⟨h1,h2⟩:=h
 obtain⟨g1,g2⟩:=DI 20 n.natAbs (by show n.natAbs<1000000000000000000000;omega)
 unfold gx
 split
 ·refine⟨fun c hc=>?_,by rw[List.length_append,List.length_singleton];omega⟩
  rcases List.mem_append.1 hc with hc | hc
  ·rw[List.mem_singleton.1 hc];decide
  ·exact g1 c hc
 ·exact⟨g1,by show(eO 20 n.natAbs).length≤64;omega⟩
theorem Ei (x:Int):dR (dR x)=dR x:=by
 unfold dR
 by_cases h:CI x
 ·rw[if_pos h];decide
 ·rw[if_neg h,if_neg h]
theorem Lu {b:Nat} {s:Bool} {M:Nat} {p:Int} (h:double.read b=.number s M p):dR (b:Int)=b:=by
 refine if_neg fun g=>?_
 obtain⟨g1,g2⟩:=g
 unfold HW at g1
 exact KQ (b:=b) (by omega) s M p h
theorem Oj {n:Int} (h:dH n):dR (q4 n)=q4 n:=by
 obtain⟨h1,h2⟩:=h
 unfold q4
 split
 ·have hw:Wh (FloatKind.nearest .f64 n) (decide (n<0)) (lZ n.natAbs):=by rw[zJ];exact zI _ (by omega)
  obtain⟨M,p,hr,_⟩:=hw.h
  exact Lu hr
 ·exact yx
def vL (v:ay) (d:Int):Prop:=bZ v=0∧(v.f0=0∨v.f0=d)
theorem val_zero {v:ay} (h:bZ v=0):(¬(v.f0<0∨v.f0≥6))∧jJ v∧(¬(v.f0=1∧v.f1≠0∧v.f1≠1))∧dR v.f2=v.f2∧v.f3.length≤64∧¬(v.f0=5∧eU v.f3.length v.f3=false):=by
 have h1:¬(v.f0<0∨v.f0≥6):=fun g=>by rw[SN g] at h;cases h
 have h2:jJ v:=Classical.byContradiction fun g=>by rw[Pc h1 g] at h;cases h
 have h3:¬(v.f0=1∧v.f1≠0∧v.f1≠1):=fun g=>by rw[Yo h1 h2 g] at h;cases h
 have h4:dR v.f2=v.f2:=Classical.byContradiction fun g=>by rw[SO h1 h2 h3 g] at h;cases h
 have h5:¬v.f3.length>64:=fun g=>by rw[Yp h1 h2 h3 h4 g] at h;cases h
 exact⟨h1,h2,h3,h4,by omega,fun g=>by rw[Yq h1 h2 h3 h4 h5 g.1 g.2] at h;cases h⟩
theorem lx (d:Int):vL l4 d:=⟨E7 (by decide) (by decide) (by decide) yx (by decide) (by decide),.inl rfl⟩
theorem mN {d n:Int} (hd:d=1∧(n=0∨n=1)∨d=2):vL ⟨d,n,0,[]⟩ d:=by
 refine⟨E7 ?_ ⟨?_,.inl rfl,.inl rfl⟩ ?_ yx (Nat.not_succ_le_zero _) ?_,.inr rfl⟩
 ·show ¬(d<0∨d≥6);omega
 ·show n=0∨d=1∨d=2;omega
 ·show ¬(d=1∧n≠0∧n≠1);omega
 ·show ¬(d=5∧_);omega
theorem AX {x:Int} (h:dR x=x):vL ⟨3,0,x,[]⟩ 3:=
 ⟨E7 (v:=⟨3,0,x,[]⟩) (by show ¬((3:Int)<0∨(3:Int)≥6);decide) ⟨.inl rfl,.inr rfl,.inl rfl⟩ (fun g=>absurd g.2.1 (fun h=>h rfl)) h (Nat.not_succ_le_zero _) (fun g=>absurd g.1 (show ¬(3:Int)=5 by decide)),.inr rfl⟩
theorem jN {d:Int} {s:List UInt8} (hd:d=4∨d=5) (h:s.length≤64) (hu:d=5→eU s.length s=true):vL ⟨d,0,0,s⟩ d:=by
 refine⟨E7 ?_ ⟨.inl rfl,.inl rfl,.inr hd⟩ (fun g=>absurd g.2.1 (fun h=>h rfl)) yx (Nat.not_lt.2 h) (fun g=>?_),.inr rfl⟩
 ·show ¬(d<0∨d≥6);omega
 ·have:=hu g.1
  have g2:eU s.length s=false:=g.2
  rw[this] at g2;cases g2
theorem ux {n d:Int} (hn:dH n) (hd:1≤d∧d≤5):vL (ft n d) d:=by
 unfold ft
 by_cases h1:d=1
 ·rw[if_pos h1]
  split
  ·rename_i h;exact mN (.inl ⟨h1,h⟩)
  ·exact lx d
 rw[if_neg h1]
 by_cases h3:d=3
 ·rw[if_pos h3]
  split
  ·subst h3;exact AX (Oj hn)
  ·exact lx d
 rw[if_neg h3]
 by_cases h4:d=4
 ·rw[if_pos h4]
  exact jN (.inl h4) (by rw[nJ];decide) fun g=>by omega
 rw[if_neg h4]
 by_cases h5:d=5
 ·rw[if_pos h5]
  obtain⟨g1,g2⟩:=Oi hn
  exact jN (.inr h5) g2 fun _=>vK _ _ (Nat.le_refl _) g1
 ·rw[if_neg h5];exact mN (.inr (by omega))
theorem Ol {v:ay} {d:Int} (hv:bZ v=0) (hk:sU v) (hd:1≤d∧d≤5):vL (uc v d) d:=by
 obtain⟨a1,a2,a3,a4,a5,a6⟩:=val_zero hv
 unfold uc
 rw[if_neg (fun g=>g hv),if_neg (by omega)]
 by_cases h0:v.f0=0∨v.f0=d
 ·rw[if_pos h0];exact⟨hv,h0⟩
 rw[if_neg h0]
 by_cases hc:il v.f0 d=false
 ·rw[if_pos hc];exact lx d
 rw[if_neg hc]
 have hc:il v.f0 d=true:=by
  cases e:il v.f0 d with
  | true=>rfl
  | false=>exact absurd e hc
 obtain⟨c1,c2,c3,c4,c5,c6⟩:=of_decide_eq_true hc
 by_cases h1:v.f0=1
 ·rw[if_pos h1]
  unfold kA
  by_cases h5:d=5
  ·rw[if_pos h5]
   split
   ·exact jN (.inr h5) (by decide) fun _=>vK _ _ (Nat.le_refl _) (by decide)
   ·exact jN (.inr h5) (by decide) fun _=>vK _ _ (Nat.le_refl _) (by decide)
  ·rw[if_neg h5];exact ux hk.2 hd
 rw[if_neg h1]
 by_cases h2:v.f0=2
 ·rw[if_pos h2];exact ux hk.2 hd
 rw[if_neg h2]
 by_cases h3:v.f0=3
 ·rw[if_pos h3]
  unfold l5
  by_cases h4:d=4
  ·rw[if_pos h4];exact jN (.inl h4) (by rw[nJ];decide) fun g=>by omega
  rw[if_neg h4]
  by_cases ht:∃x,TI v.f2.toNat x
  ·obtain⟨x,hx⟩:=ht
   obtain⟨t1,t2⟩:=yG (b:=v.f2) hx
   rw[t1,t2,if_pos rfl]
   obtain⟨s,Q,_,_,q1,q2⟩:=hx
   exact ux ⟨q1,by omega⟩ hd
  ·obtain⟨_,t2⟩:=Br (b:=v.f2) fun x g=>ht ⟨x,g⟩
   rw[t2,if_neg Bool.false_ne_true];exact lx d
 rw[if_neg h3]
 by_cases h4:v.f0=4
 ·rw[if_pos h4]
  unfold je
  by_cases h5:d=5
  ·rw[if_pos h5]
   split
   ·rename_i h;exact jN (.inr h5) a5 fun _=>h
   ·exact lx d
  rw[if_neg h5]
  split
  ·by_cases Wn:d=3
   ·rw[if_pos Wn];subst Wn;exact AX (Ei _)
   ·rw[if_neg Wn];exact mN (.inr (by omega))
  ·exact lx d
 rw[if_neg h4]
 unfold jo
 by_cases Wo:d=4
 ·rw[if_pos Wo];exact jN (.inl Wo) a5 fun g=>by omega
 rw[if_neg Wo]
 by_cases PE:d=1
 ·rw[if_pos PE]
  split
  ·exact mN (.inl ⟨PE,.inr rfl⟩)
  ·split
   ·exact mN (.inl ⟨PE,.inl rfl⟩)
   ·exact lx d
 ·rw[if_neg PE]
  split
  ·exact mN (.inr (by omega))
  ·exact lx d
end Go.Proofs.YtbajncpfmemdgaaGreatDoor
end
section
namespace Go.Proofs.YtbajncpfmemdgaaGreatDoor
open Go Go.Ev Go.IntWalk Go.Ev.Flt
open Ieee (double signed Datum)
theorem xA {α:Type} (p:Nat→Bool) (q:Nat→α):∀n,(bj p q n).Sublist ((List.range n).map q)
 | 0=>.slnil
 | n+1=>by
  rw[List.range_succ,List.map_append]
  by_cases h:p n=true
  ·rw[vE h];exact(xA p q n).append (.refl _)
  ·rw[xk h];exact(xA p q n).trans (List.sublist_append_left _ _)
theorem uy {α:Type} [Inhabited α] {p:Nat→Bool} {q:Nat→α}:∀ {n k:Nat},k≤n→(∀i,i<k→p i=true)→k≤(bj p q n).length∧∀i,i<k→(bj p q n).getD i default=q i
 | 0,k,hk,_=>by
  obtain rfl:=Nat.le_zero.1 hk
  exact⟨Nat.le_refl _,fun i hi=>absurd hi (Nat.not_lt_zero i)⟩
 | n+1,k,hk,hp=>by
  have app:∀ {i:Nat} {l:List α} {x:α},i<l.length→(l++[x]).getD i default=l.getD i default:=fun {i l x} hi=>by
   rw[List.getD_eq_getElem?_getD,List.getD_eq_getElem?_getD,List.getElem?_append_left hi]
  by_cases e:k=n+1
  ·subst e
   obtain⟨h1,h2⟩:=uy (p:=p) (q:=q) (Nat.le_refl n) fun i hi=>hp i (by omega)
   have h3:=kU p q n
   rw[vE (hp n (Nat.lt_succ_self n))]
   refine⟨by rw[List.length_append,List.length_singleton];omega,fun i hi=>?_⟩
   by_cases e:i=n
   ·subst e
    rw[List.getD_eq_getElem?_getD,List.getElem?_append_right (by omega),show i-(bj p q i).length=0 by omega];rfl
   ·rw[app (by omega)];exact h2 i (by omega)
  ·obtain⟨h1,h2⟩:=uy (p:=p) (q:=q) (n:=n) (k:=k) (by omega) hp
   by_cases h:p n=true
   ·rw[vE h]
    exact⟨by rw[List.length_append];omega,fun i hi=>by rw[app (by omega)];exact h2 i hi⟩
   ·rw[xk h];exact⟨h1,h2⟩
theorem sL (t:aa) (p:Nat→Bool):(bj p (fun i=>t.f2.getD i default) t.f2.length).Sublist t.f2:=by
 have:=xA p (fun i=>t.f2.getD i default) t.f2.length
 rwa [uk] at this
theorem z6 {t:aa} (ht:bu t=0) {nm:List UInt8} (hn:aD nm=0) {p:Nat→Bool} (hp:∀i:Nat,(i:Int)<t.f1→p i=true):bu ⟨nm,t.f1,bj p (fun i=>t.f2.getD i default) t.f2.length⟩=0:=by
 obtain⟨⟨a1,a2,a3,a4,a5⟩,b,d,e⟩:=jX.1 ht
 obtain⟨h1,h2⟩:=uy (p:=p) (q:=fun i=>t.f2.getD i default) (n:=t.f2.length) (k:=t.f1.toNat) (by omega) fun i hi=>hp i (by omega)
 have h3:=kU p (fun i=>t.f2.getD i default) t.f2.length
 have hs:=sL t p
 exact jX.2 ⟨⟨hn,⟨by show 1≤(bj p _ _).length;omega,by show(bj p _ _).length≤8;omega⟩,a3,a4,by show t.f1≤((bj p (fun i=>t.f2.getD i default) t.f2.length).length:Int);omega⟩,fun x hx=>b x (hs.subset hx),List.Pairwise.sublist hs d,fun i hi=>by rw[show(⟨nm,t.f1,bj p (fun i=>t.f2.getD i default) t.f2.length⟩:aa).f2.getD i default=_ from h2 i hi];exact e i hi⟩
theorem GY {c:aj}:bR c=0↔aD c.f0=0∧(1≤c.f1∧c.f1≤5)∧bZ c.f3=0∧(c.f3.f0=0∨c.f3.f0=c.f1):=by
 unfold bR
 constructor
 ·intro h
  by_cases h1:aD c.f0≠0
  ·rw[if_pos h1] at h;exact absurd h h1
  rw[if_neg h1] at h
  by_cases h2:c.f1<1∨c.f1>5
  ·rw[if_pos h2] at h;cases h
  rw[if_neg h2] at h
  by_cases h3:bZ c.f3≠0
  ·rw[if_pos h3] at h;exact absurd h h3
  rw[if_neg h3] at h
  by_cases h4:c.f3.f0≠0∧c.f3.f0≠c.f1
  ·rw[if_pos h4] at h;cases h
  exact⟨Decidable.not_not.1 h1,by omega,Decidable.not_not.1 h3,by omega⟩
 ·rintro⟨h1,h2,h3,h4⟩
  rw[if_neg (fun g=>g h1),if_neg (by omega),if_neg (fun g=>g h3),if_neg (by omega)]
theorem RB {t:aa} {s:List UInt8} {d:Int} (ht:bu t=0) (hk:dz t) (h:xi t s d=0):bu (uf t s d)=0:=by
 obtain⟨⟨a1,a2,a3,a4,a5⟩,b,n,e⟩:=jX.1 ht
 unfold xi at h
 by_cases h1:bw t s<t.f1
 ·rw[if_pos h1] at h;cases h
 rw[if_neg h1] at h
 have hc:il (jq t s).f1 d=true:=by
  cases g:il (jq t s).f1 d with
  | true=>rfl
  | false=>rw[g] at h;cases h
 have hd:1≤d∧d≤5:=(of_decide_eq_true hc).2.1
 obtain⟨j,j1,j2,j3⟩:=DF (nm:=Lp) (l:=t.f2) (s:=s) (by have h2:0≤bw t s:=by omega
                                                      exact h2)
 have j1:bw t s=j:=j1
 have hx:jq t s=t.f2.getD j default:=by unfold jq;rw[j1];rfl
 have hm:jq t s∈t.f2:=by rw[hx];exact ba j2
 obtain⟨c1,c2,c3,c4⟩:=GY.1 (b _ hm)
 obtain⟨v1,v2⟩:=Ol (d:=d) c3 (hk _ hm) hd
 have hl:(uf t s d).f2=t.f2.set j (xj (jq t s) d):=by unfold uf;rw[j1];rfl
 refine jX.2 ⟨⟨a1,by rw[hl,List.length_set];exact a2,a3,a4,by rw[hl,List.length_set];exact a5⟩,fun x hx=>?_,?_,fun i hi=>?_⟩
 ·rw[hl] at hx
  rcases List.mem_or_eq_of_mem_set hx with hx | rfl
  ·exact b x hx
  ·exact GY.2 ⟨c1,hd,v1,v2⟩
 ·rw[hl]
  have hg:∀(i:Nat) (hi:i<(t.f2.set j (xj (jq t s) d)).length),Lp (t.f2.set j (xj (jq t s) d))[i]=Lp (t.f2[i]'(by rw[List.length_set] at hi;exact hi)):=fun i hi=>by
   rw[List.getElem_set]
   split
   ·rename_i g
    subst g
    have:t.f2.getD j default=t.f2[j]:=cI j2
    rw[←this,←hx];rfl
   ·rfl
  refine List.pairwise_iff_getElem.2 fun i k hi ed hik=>?_
  rw[hg,hg]
  exact List.pairwise_iff_getElem.1 n i k (by rw[List.length_set] at hi;exact hi) (by rw[List.length_set] at ed;exact ed) hik
 ·have hi:i<t.f1.toNat:=hi
  rw[hl,List.getD_eq_getElem?_getD,List.getElem?_set_ne (by omega),←List.getD_eq_getElem?_getD]
  exact e i hi
theorem Lv {t:aa} {c:ak} (h:mJ t c=0):aD c.f3=0∧aD c.f4=0:=by
 unfold mJ at h
 by_cases g1:aD c.f3≠0
 ·rw[if_pos g1] at h;exact absurd h g1
 ·by_cases g2:aD c.f4≠0
  ·rw[if_neg g1,if_pos g2] at h;exact absurd h g2
  ·exact⟨Decidable.not_not.1 g1,Decidable.not_not.1 g2⟩
theorem AY {t u:aa} {c:ak} (h:ug t u c=0):c.f1≠c.f2∧aD c.f3=0:=by
 unfold ug at h
 by_cases g1:c.f1=c.f2
 ·rw[if_pos g1] at h;cases h
 ·by_cases g2:aD c.f3≠0
  ·rw[if_neg g1,if_pos g2] at h;exact absurd h g2
  ·exact⟨g1,Decidable.not_not.1 g2⟩
theorem XQ {c:ak} {t u:aa} (hr:¬(c.f0<1∨6<c.f0)) (h:kE c t u=0) (ht:c.f0≠1→bu t=0∧dz t):∀x∈kT c t,bu x=0:=by
 rcases(show c.f0=1∨c.f0=2∨c.f0=3∨c.f0=4∨c.f0=5∨c.f0=6 by omega) with h0 | h0 | h0 | h0 | h0 | h0
 ·rw[xn h0] at h;rw[xo h0]
  intro x hx;rw[List.mem_singleton.1 hx];exact h
 ·rw[I0 h0] at h;rw[I1 h0]
  intro x hx;rw[List.mem_singleton.1 hx];exact Rv (ht (by omega)).1 h
 ·rw[Dl h0] at h;rw[I2 h0]
  have g:=(ht (by omega)).1
  intro x hx;rw[List.mem_singleton.1 hx]
  have hk:¬bw t c.f5<t.f1:=fun h'=>by unfold Bu at h;rw[if_pos h'] at h;cases h
  exact z6 g ((jX.1 g).1.1) fun i hi=>decide_eq_true (by omega)
 ·rw[I3 h0] at h;rw[I4 h0]
  intro x hx;rw[List.mem_singleton.1 hx];exact RB (ht (by omega)).1 (ht (by omega)).2 h
 ·rw[Dm h0] at h;rw[I5 h0]
  have g:=(ht (by omega)).1
  obtain⟨n1,n2⟩:=Lv h
  intro x hx
  rcases List.mem_cons.1 hx with rfl | hx
  ·exact z6 g n1 fun i hi=>o4 hi
  ·rw[List.mem_singleton.1 hx]
   exact z6 g n2 fun i hi=>o4 hi
 ·rw[N2 h0] at h;rw[I6 h0]
  intro x hx;rw[List.mem_singleton.1 hx]
  obtain⟨⟨_,a⟩,b,d,e⟩:=jX.1 (ht (by omega)).1
  exact jX.2 ⟨⟨(AY h).2,a⟩,b,d,e⟩
theorem Om {n:Int} (h:dH n):0≤q4 n∧q4 n<18446744073709551616:=by
 obtain⟨h1,h2⟩:=h
 unfold q4
 split
 ·refine⟨Int.natCast_nonneg _,?_⟩
  have:FloatKind.nearest .f64 n<18446744073709551616:=by
   rw[zJ]
   by_cases h0:n.natAbs=0
   ·rw[h0]
    cases decide (n<0)<;>decide
   ·rw[AQ _ h0 (CX (by omega)),CV]
    have:=CX (m:=n.natAbs) (by omega)
    obtain⟨_,k2,_⟩:=oe h0
    have:(n.natAbs.log2+1022)*4503599627370496≤1085*4503599627370496:=Nat.mul_le_mul_right _ (by omega)
    split<;>omega
  omega
 ·decide
theorem pV:sU l4:=⟨⟨by decide,by decide⟩,by decide,by decide⟩
theorem jY {d n x:Int} {s:List UInt8} (hx:0≤x∧x<18446744073709551616) (hn:dH n):sU ⟨d,n,x,s⟩:=⟨hx,hn⟩
theorem mc:dH 0:=⟨by decide,by decide⟩
theorem z7 {n d:Int} (hn:dH n):sU (ft n d):=by
 have z:(0:Int)≤0∧(0:Int)<18446744073709551616:=⟨by decide,by decide⟩
 unfold ft
 repeat' split
 all_goals first
  | exact pV
  | exact jY (Om hn) mc
  | exact jY z mc
  | exact jY z hn
theorem Wp {v:ay} {d:Int} (hk:sU v):sU (uc v d):=by
 have z:(0:Int)≤0∧(0:Int)<18446744073709551616:=⟨by decide,by decide⟩
 have o:dH 1:=⟨by decide,by decide⟩
 have w:∀x,dH (IntKind.i64.wrap x):=fun x=>by
  rw[IntKind.wrap_i64]
  unfold dH
  omega
 unfold uc
 by_cases h1:bZ v≠0
 ·rw[if_pos h1];exact pV
 rw[if_neg h1]
 by_cases h2:d<1∨d>5
 ·rw[if_pos h2];exact pV
 rw[if_neg h2]
 by_cases h3:v.f0=0∨v.f0=d
 ·rw[if_pos h3];exact hk
 rw[if_neg h3]
 by_cases h4:il v.f0 d=false
 ·rw[if_pos h4];exact pV
 rw[if_neg h4]
 by_cases h5:v.f0=1
 ·rw[if_pos h5]
  unfold kA
  repeat' split
  ·exact jY z mc
  ·exact jY z mc
  ·exact z7 hk.2
 rw[if_neg h5]
 by_cases h6:v.f0=2
 ·rw[if_pos h6];exact z7 hk.2
 rw[if_neg h6]
 by_cases h7:v.f0=3
 ·rw[if_pos h7]
  unfold l5
  by_cases h8:d=4
  ·rw[if_pos h8];exact jY z mc
  rw[if_neg h8]
  by_cases ht:∃x,TI v.f2.toNat x
  ·obtain⟨x,hx⟩:=ht
   obtain⟨t1,t2⟩:=yG (b:=v.f2) hx
   rw[t1,t2,if_pos rfl]
   obtain⟨s,Q,_,_,q1,q2⟩:=hx
   exact z7 ⟨q1,by omega⟩
  ·obtain⟨_,t2⟩:=Br (b:=v.f2) fun x g=>ht ⟨x,g⟩
   rw[t2,if_neg Bool.false_ne_true];exact pV
 rw[if_neg h7]
 by_cases h8:v.f0=4
 ·rw[if_pos h8]
  unfold je
  repeat' split
  all_goals first
   | exact pV
   | exact jY z mc
   | exact jY (CQ (vA 8)) mc
   | exact jY z (w _)
 rw[if_neg h8]
 unfold jo
 by_cases h9:d=4
 ·rw[if_pos h9];exact jY z mc
 rw[if_neg h9]
 by_cases kg:d=1
 ·rw[if_pos kg]
  repeat' split
  ·exact jY z o
  ·exact jY z mc
  ·exact pV
 rw[if_neg kg]
 split
 ·rename_i h
  have hp:xd v.f3:=Classical.byContradiction fun g=>by unfold jL at h;rw[if_neg g] at h;cases h
  refine jY z ?_
  unfold kP
  rw[dif_pos hp]
  exact(Classical.choose_spec hp).1
 ·exact pV
theorem Wq {c:ak} {t:aa} (hc:fi c) (ht:dz t):∀x∈kT c t,dz x:=by
 have sub:∀ {nm:List UInt8} {k:Int} {l:List aj},(∀x∈l,x∈t.f2)→dz ⟨nm,k,l⟩:=fun h x hx=>ht x (h x hx)
 unfold kT
 repeat' split
 ·intro x hx;rw[List.mem_singleton.1 hx];exact hc.2
 ·intro x hx;rw[List.mem_singleton.1 hx]
  intro y hy
  rcases List.mem_append.1 hy with hy | hy
  ·exact ht y hy
  ·rw[List.mem_singleton.1 hy];exact hc.1
 ·intro x hx;rw[List.mem_singleton.1 hx]
  exact sub fun y hy=>(sL t _).subset hy
 ·intro x hx;rw[List.mem_singleton.1 hx]
  intro y hy
  rcases List.mem_or_eq_of_mem_set hy with hy | rfl
  ·exact ht y hy
  ·refine Wp ?_
   unfold jq
   by_cases g:(bw t c.f5).toNat<t.f2.length
   ·exact ht _ (ba g)
   ·rw[List.getD_eq_getElem?_getD,List.getElem?_eq_none (Nat.not_lt.1 g)]
    exact⟨⟨by decide,by decide⟩,by decide,by decide⟩
 ·intro x hx
  rcases List.mem_cons.1 hx with rfl | hx
  ·exact sub fun y hy=>(sL t _).subset hy
  ·rw[List.mem_singleton.1 hx]
   exact sub fun y hy=>(sL t _).subset hy
 ·intro x hx;rw[List.mem_singleton.1 hx];exact ht
end Go.Proofs.YtbajncpfmemdgaaGreatDoor
end
section
namespace Go.Proofs.YtbajncpfmemdgaaGreatDoor
open Go Go.Ev Go.IntWalk
theorem F7:bU Tryz.prog 7 Tryz.f7:=.of (by kernel_rfl) (by kernel_rfl)
theorem On (l:List aa) (s1 s2:List UInt8):cZ l [s1,s2] l.length=cZ (cZ l [s1] l.length) [s2] (cZ l [s1] l.length).length:=by
 rw[iW,iW (cZ l [s1] l.length),iW l [s1],List.filter_filter]
 congr 1
 funext x
 by_cases e1:x.f0=s1
 ·rw[decide_eq_false (fun g=>iu.1 g (by rw[e1];exact List.mem_cons_self)),decide_eq_false (p:=eT [s1] x.f0<0) (fun g=>iu.1 g (by rw[e1];exact List.mem_cons_self)),Bool.and_false]
 ·by_cases e2:x.f0=s2
  ·rw[decide_eq_false (fun g=>iu.1 g (by rw[e2];exact List.mem_cons_of_mem _ List.mem_cons_self)),decide_eq_false (p:=eT [s2] x.f0<0) (fun g=>iu.1 g (by rw[e2];exact List.mem_cons_self)),Bool.false_and]
  ·rw[decide_eq_true (iu.2 fun g=>?_),decide_eq_true (p:=eT [s2] x.f0<0) (iu.2 fun g=>e2 (List.mem_singleton.1 g)),decide_eq_true (p:=eT [s1] x.f0<0) (iu.2 fun g=>e1 (List.mem_singleton.1 g))]
   ·rfl
   ·rcases List.mem_cons.1 g with g | g
    ·exact e1 g
    ·exact e2 (List.mem_singleton.1 g)
theorem Ju {l:List aa} {c:ak} (h:ct l c=0):(cZ l (aK c) l.length).length+(aK c).length=l.length:=by
 obtain⟨g1,g2,g3,g4⟩:=iV h
 obtain⟨_,_,a3⟩:=gg.1 g1
 have one:∀ {l:List aa} {t:aa},fk fp l→t∈l→(cZ l [t.f0] l.length).length+1=l.length:=fun {l t} hl ht=>by
  have:=(Lr hl ht).length_eq
  rw[List.length_append] at this;exact this.symm
 rcases(show c.f0=1∨(2≤c.f0∧c.f0≤5)∨c.f0=6 by omega) with h0 | h0 | h0
 ·rw[Dg h0,iW,List.filter_eq_self.2 fun x _=>decide_eq_true (iu.2 fun g=>by cases g)];rfl
 ·rw[kq h0] at g3⊢
  obtain⟨m1,m2⟩:=sH (Lt.1 g3)
  have:=one a3 m1
  rw[m2] at this;exact this
 ·rw[o3 h0] at g3⊢
  rw[N2 h0] at g4
  have bQ:=(AY g4).1
  have hm:=(ca (fun i=>if aW l ([c.f1,c.f2].getD i default)<0 then(9:Int) else 0) 2).1 g3
  have p1:0≤aW l c.f1:=Int.not_lt.1 fun g=>by have:(if aW l c.f1<0 then(9:Int) else 0)=0:=hm 0 (by decide);rw[if_pos g] at this;cases this
  have p2:0≤aW l c.f2:=Int.not_lt.1 fun g=>by have:(if aW l c.f2<0 then(9:Int) else 0)=0:=hm 1 (by decide);rw[if_pos g] at this;cases this
  obtain⟨m1,m2⟩:=sH p1
  obtain⟨n1,n2⟩:=sH p2
  have q1:=one a3 m1
  rw[m2] at q1
  have hk:aX l c.f2∈cZ l [c.f1] l.length:=by
   rw[iW]
   exact List.mem_filter.2 ⟨n1,decide_eq_true (iu.2 fun g=>bQ ((List.mem_singleton.1 g).symm.trans n2))⟩
  have q2:=one (List.Pairwise.sublist (pe l _) a3) hk
  rw[n2] at q2
  rw[On]
  show _+2=_
  omega
theorem at_mem {m:List aa} (h:fk fp m) {x:aa} (hx:x∈m):0≤aW m x.f0∧m.getD (aW m x.f0).toNat default=x:=by
 have h0:0≤aW m x.f0:=Int.not_lt.1 fun g=>AV.1 g x hx rfl
 obtain⟨h1,h2⟩:=sH h0
 exact⟨h0,DG h h1 hx h2⟩
section
variable [Env] [aC] {vs:List V} {σ:St} {k:ah}
omit [aC] in
theorem vM {m:List aa} {n a:Nat} (hn:n=1):dQ Go.Ev.start (V.arr n (fun i=>aa.enc ((fun i=>m.getD (Nat.add a i) default) i)) 3 false false) (ae aa.enc 3 [m.getD a default]):=by
 subst hn
 exact .arr (fun i hi=>by obtain rfl:=Nat.lt_one_iff.1 hi;exact jh (aa.clean _)) (fun i hi=>rfl) (fun h=>h) fun h=>h
theorem RC (h:Wf vs σ k):ag Tryz.prog 32 vs k σ:=by
 obtain⟨x,y,hf,hp,hk⟩:=h
 refine(ag.ZQ (σ:=σ) (Q:=fun v=>∃b:Bool,v=.bool b∧(b=true↔x=y)) hf.fh (fun v ⟨b,hb,_⟩=>by subst hb;exact fun ρ ρ' z hz=>by cases hz;exact .bool _) (K0 ⟨x,y,rfl,hp,fun b hb=>⟨b,rfl,hb⟩⟩)).mono fun v τ ⟨⟨b,hb,hx⟩,ic⟩=>?_
 subst hb ic
 exact hk b hx
theorem GZ:∀ {f:FuncId} {vs:List V} {σ:St} {k:ah},zY f vs σ k→ag Tryz.prog f vs k σ:=fun h=>aP RC Rz h
def I7 (l m o:List aa) (s:List (List UInt8)):Nat→List SV→Prop
 | 0,ss=>∃i:Nat,i≤l.length∧ss=[.val (ae aa.enc 3 l),.val (ae aa.enc 3 m),.val (ae aa.enc 3 o),.val (ae V.str 1 s),.val (.int .i64 (i:Int))]
 | 1,ss=>∃i:Nat,i≤o.length∧ss=[.val (ae aa.enc 3 m),.val (ae aa.enc 3 o),.val (.int .i64 (i:Int))]
 | _,_=>False
def m7 (l o:List aa):Nat→List SV→Nat
 | 0,ss=>10+(l.length-cu ss)
 | _,ss=>o.length-cu ss
omit [aC] in
theorem I7.clean {l m o:List aa} {s:List (List UInt8)}:∀k ss,I7 l m o s k ss→∀s∈ss,s.clean
 | 0,_,⟨_,_,e⟩=>by subst e;exact aw (bK l) (aw (bK m) (aw (bK o) (aw (et _) (aE bM))))
 | 1,_,⟨_,_,e⟩=>by subst e;exact aw (bK m) (aw (bK o) (aE bM))
 | n+2,_,h=>h.elim
omit [Env] [aC] in
theorem sM {a:Int} (h0:0≤a) (h1:a<1000):(IntKind.i64.wrap (a+1)).toNat-a.toNat=1:=by rw[i64_in _ (by omega)];omega
omit [Env] [aC] in
theorem Oo {l:List aa} {c:ak} (hl:∀t∈l,dz t) (hc:fi c) (hz:jk l c=0):cn (dS l c)=0∧(∀t∈dS l c,dz t)∧(dS l c).length+(aK c).length=l.length+(bY l c).length∧
  (∀x∈l,eT (aK c) x.f0<0→x∈dS l c)∧∀x∈bY l c,x∈dS l c:=by
 obtain⟨h0,h1,hA⟩:=sI hz
 obtain⟨g1,g2,g3,g4⟩:=iV h0
 obtain⟨a1,a2,a3⟩:=gg.1 g1
 have hp:=pU l c
 have hm:c.f0≠1→aX l c.f1∈l:=fun h5=>by
  obtain⟨f1,_⟩:=o7 g2 (fun j hj=>fun h=>by
   have h:aW l ((aK c).getD j default)<0:=h
   have:=(ca (fun i=>if aW l ((aK c).getD i default)<0 then(9:Int) else 0) _).1 g3 j hj
   rw[if_pos h] at this;cases this)
  exact ba (by have g1:=cY l c.f1;have g2:=f1 h5;omega)
 refine⟨Ls hz ?_,RA hl hz ?_,?_,fun x hx hn=>?_,fun x hx=>?_⟩
 ·rw[rn h0]
  exact XQ g2 g4 fun h5=>⟨a2 _ (hm h5),hl _ (hm h5)⟩
 ·rw[rn h0]
  by_cases h5:c.f0=1
  ·rw[xo h5]
   intro t ht;rw[List.mem_singleton.1 ht];exact hc.2
  ·exact Wq hc (hl _ (hm h5))
 ·rw[hA,hp.length_eq]
  unfold j8
  rw[List.length_append]
  have:=Ju h0
  omega
 ·rw[hA]
  refine hp.mem_iff.2 (List.mem_append_left _ ?_)
  rw[iW]
  exact List.mem_filter.2 ⟨hx,decide_eq_true hn⟩
 ·rw[hA]
  exact hp.mem_iff.2 (List.mem_append_right _ hx)
set_option maxRecDepth 100000 in
theorem S7 (l:List aa) (c:ak) (hl:∀t∈l,dz t) (hc:fi c):ag Tryz.prog 7 [ae aa.enc 3 l,ak.enc c] (fun v _=>v=.bool true) Go.Ev.start:=by
 by_cases hz:jk l c=0
 ·obtain⟨k1,k2,k3,k4,k5⟩:=Oo hl hc hz
  obtain⟨h0,h1,hA⟩:=sI hz
  obtain⟨b1,b2,b3⟩:=gg.1 k1
  have hT:=ui l c
  have hS:=Du c
  have Ws:∀x∈dS l c,x.f2.length≤1000000:=fun x hx=>by have:=((Lo l c).2 x hx).2;omega
  refine F7.cx (live:=yO) (call:=zY) (n₀:=0) (fun h=>GZ h) rfl 2 (by kernel_rfl) Nat.lt_wfRel.wf (m7 l (bY l c)) (I7 l (dS l c) (bY l c) (aK c)) I7.clean ?_ ?_
  ·rw[e7]
   refine⟨l,rfl,⟨rfl,rfl,rfl⟩,fun Tm=>⟨rfl,c,rfl,⟨rfl,rfl,rfl⟩,fun Vz=>⟨rfl,l,c,aA (bK l) (aA c.aG bm),⟨hc,by omega,hl⟩,rfl,av (fun g=>absurd hz g) fun _=>⟨l,c,rfl,⟨hc,by omega,hl⟩,c,rfl,dS l c,rfl,fun t h=>dz.gH (k2 t h),rfl,av (fun g=>absurd k1 g) fun _=>⟨rfl,av (fun g=>absurd h0 g) fun _=>⟨rfl,av (fun g=>absurd ?_ g) fun _=>⟨0,Nat.zero_le _,rfl⟩⟩⟩⟩⟩⟩⟩
   rw[i64_in (((l.length:Nat):Int)-((aK c).length:Nat)) (by omega),i64_in _ (by omega)]
   omega
  ·intro j hj ss hI
   match j,hI with
   | 0,hI=>
    obtain⟨i,hi,rfl⟩:=hI
    rw[r7a]
    refine⟨rfl,av (fun a1=>⟨⟨by omega,by omega⟩,dS l c,_,rfl,by omega,⟨by omega,by omega⟩,_,rfl,by omega,rfl,av (fun a2=>?_) fun _=>?_⟩) fun a1=>?_⟩
    ·rw[dU] at a2⊢
     have hx:=ba (show i<l.length by omega)
     obtain⟨g1,g2⟩:=at_mem b3 (k4 _ hx a2)
     have bB:=cY (dS l c) (l.getD i default).f0
     have l20:=(gg.1 (iV h0).1).1
     refine⟨rfl,av (fun g=>absurd g1 (Int.not_le.2 g)) fun _=>⟨⟨g1,by rw[i64_in _ (by omega)];omega,by rw[i64_in _ (by omega)];omega,Int.le_refl _⟩,⟨by omega,by rw[i64_in _ (by omega)];omega,by rw[i64_in _ (by omega)];omega,Int.le_refl _⟩,[l.getD i default],[l.getD i default],.cons ?_ (.cons ?_ .nil),⟨Nat.succ_le_of_lt (by decide),fun t ht=>?_⟩,fun b hb=>?_⟩⟩
     ·have:=vM (m:=dS l c) (a:=(aW (dS l c) (l.getD i default).f0).toNat) (sM g1 (by omega))
      rw[g2] at this
      exact this
     ·exact vM (m:=l) (a:=i) (sM (by omega) (by omega))
     ·rw[List.mem_singleton.1 ht];exact Ws _ (k4 _ hx a2)
     ·obtain rfl:b=true:=hb.2 rfl
      refine af.mk (fun h=>by cases h) fun _=>⟨⟨i+1,by omega,by rw[i64_in _ (by omega)];rfl⟩,?_⟩
      rw[i64_in _ (by omega)]
      show 10+(l.length-((i:Int)+1).toNat)<10+(l.length-(i:Int).toNat)
      omega
    ·have l20:=(gg.1 (iV h0).1).1
     refine⟨⟨i+1,by omega,by rw[i64_in _ (by omega)];rfl⟩,?_⟩
     rw[i64_in _ (by omega)]
     show 10+(l.length-((i:Int)+1).toNat)<10+(l.length-(i:Int).toNat)
     omega
    ·exact⟨⟨0,Nat.zero_le _,rfl⟩,by show(bY l c).length-(0:Int).toNat<10+_;omega⟩
   | 1,hI=>
    obtain⟨i,hi,rfl⟩:=hI
    rw[r7b]
    refine⟨rfl,av (fun a1=>⟨⟨by omega,by omega⟩,dS l c,_,rfl,by omega,rfl,?_⟩) fun a1=>⟨rfl,rfl⟩⟩
    rw[dU]
    have hx:=ba (show i<(bY l c).length by omega)
    obtain⟨g1,g2⟩:=at_mem b3 (k5 _ hx)
    have bB:=cY (dS l c) ((bY l c).getD i default).f0
    refine av (fun g=>absurd g1 (Int.not_le.2 g)) fun _=>⟨⟨g1,by rw[i64_in _ (by omega)];omega,by rw[i64_in _ (by omega)];omega,Int.le_refl _⟩,⟨by omega,by rw[i64_in _ (by omega)];omega,by rw[i64_in _ (by omega)];omega,Int.le_refl _⟩,[(bY l c).getD i default],[(bY l c).getD i default],.cons ?_ (.cons ?_ .nil),⟨Nat.succ_le_of_lt (by decide),fun t ht=>?_⟩,fun b hb=>?_⟩
    ·have:=vM (m:=dS l c) (a:=(aW (dS l c) ((bY l c).getD i default).f0).toNat) (sM g1 (by omega))
     rw[g2] at this
     exact this
    ·exact vM (m:=bY l c) (a:=i) (sM (by omega) (by omega))
    ·rw[List.mem_singleton.1 ht];exact Ws _ (k5 _ hx)
    ·obtain rfl:b=true:=hb.2 rfl
     refine af.mk (fun h=>by cases h) fun _=>⟨⟨i+1,by omega,by rw[i64_in _ (by omega)];rfl⟩,?_⟩
     rw[i64_in _ (by omega)]
     show(bY l c).length-((i:Int)+1).toNat<(bY l c).length-(i:Int).toNat
     omega
   | n+2,hI=>exact hI.elim
 ·refine F7.cx (live:=yO) (call:=zY) (n₀:=0) (fun h=>GZ h) rfl 2 (by kernel_rfl) Nat.lt_wfRel.wf (fun _ _=>0) (fun _ _=>False) (fun _ _ h=>h.elim) ?_ fun _ _ _ h=>h.elim
  rw[e7]
  refine⟨l,rfl,⟨rfl,rfl,rfl⟩,fun Tm=>⟨rfl,c,rfl,⟨rfl,rfl,rfl⟩,fun Vz=>⟨rfl,l,c,aA (bK l) (aA c.aG bm),⟨hc,by omega,hl⟩,rfl,av (fun _=>⟨rfl,av (fun _=>⟨rfl,rfl⟩) fun g=>absurd ?_ g⟩) fun g=>absurd (Decidable.not_not.1 g) hz⟩⟩⟩
  rw[show dS l c=[] from if_neg hz];rfl
end
theorem vN {H:Type} {enc:TypeId×Value→H} {W:World} {v0:Value} {c1:List Value} {d0 d1:DataW H} {p0 p1:List MemPlace} (hL:W.cell? ⟨0,0,none⟩=some (.iface 292 (.agg #[.pointer (some ⟨3,179,none⟩)])))
  (h0:v0.oneCell'=true∧DataW.Trod enc Tryz.prog W 0 (fun _=>true) true 42 v0 d0 p0) (h1:DataW.Trod enc Tryz.prog W 0 (fun _=>true) true 53 (.agg ⟨c1⟩) d1 p1):
  Calls Tryz.prog 7 #[v0,.agg ⟨c1⟩] W fun e W'=>e=.returned (.bool true)∧RowKit.Below W.heap.size W W':=by
 letI:Env:=n9 [] (fun x hx=>by cases hx) (l:=[GX])
 letI:aC:=⟨List.mem_singleton.2 rfl⟩
 obtain⟨u0,⟨l,hl,rfl⟩,r0⟩:=Ln (k:=12) (A:=fun u=>∃l:List aa,(∀t∈l,dz t)∧u=ae aa.enc 3 l) Rr (abE (k:=12)) h0.1 h0.2
 obtain⟨v1,⟨c,hc,rfl⟩,r1⟩:=Lm (k:=12) (A:=fun vs=>∃c:ak,fi c∧vs=c.cells) Rs (abF (k:=12)) h1
 refine DE (fun q hq=>?_) (.cons r0 (.cons r1 .nil)) (S7 l c hl hc)
 have hq:q∈[GX]:=hq
 obtain rfl:=List.mem_singleton.1 hq
 exact hL
end Go.Proofs.YtbajncpfmemdgaaGreatDoor
end
