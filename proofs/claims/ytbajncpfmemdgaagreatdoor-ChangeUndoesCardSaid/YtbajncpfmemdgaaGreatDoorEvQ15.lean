/- Proved: parts of the way: BP8, BP9, BP10, BEq4, BEq5, BEq6, BP11, BP12, BP13, BP14, BEq7, BEq8, BP15, Awk13T0, Awk13T1, Awk13Run, BP16, BEq9, BEq10, BEq11. -/
import Derived.Test.YtbajncpfmemdgaaGreatDoorEvQ14
import Derived.Test.YtbajncpfmemdgaaGreatDoorProg
import Derived.Test.YtbajncpfmemdgaaGreatDoorEvQ10
import Derived.ProofKit
set_option linter.unusedVariables false
set_option linter.unusedSimpArgs false
section
namespace Go.Proofs.YtbajncpfmemdgaaGreatDoor
open Go Go.Ev Go.IntWalk
theorem F179:bS Tryz.prog 179 Tryz.f179:=.of (by kernel_rfl) (by kernel_rfl)
theorem F181:bS Tryz.prog 181 Tryz.f181:=.of (by kernel_rfl) (by kernel_rfl)
theorem F223:bS Tryz.prog 223 Tryz.f223:=.of (by kernel_rfl) (by kernel_rfl)
theorem F180:bS Tryz.prog 180 Tryz.f180:=.of (by kernel_rfl) (by kernel_rfl)
theorem F177:bS Tryz.prog 177 Tryz.f177:=.of (by kernel_rfl) (by kernel_rfl)
theorem F134:bS Tryz.prog 134 Tryz.f134:=.of (by kernel_rfl) (by kernel_rfl)
theorem F81:bS Tryz.prog 81 Tryz.f81:=.of (by kernel_rfl) (by kernel_rfl)
section
theorem vb (f:Nat→V) (i:Nat) (v:V):fe f i v i=v:=by
 show(Bool.rec (f i) v (Nat.beq i i):V)=v
 rw[Nat.beq_refl]
theorem vc (f:Nat→V) {i j:Nat} (v:V) (h:j≠i):fe f i v j=f j:=by
 show(Bool.rec (f j) v (Nat.beq j i):V)=f j
 have:Nat.beq j i=false:=by
  cases hb:Nat.beq j i with
  | false=>rfl
  | true=>exact absurd (Nat.eq_of_beq_eq_true hb) h
 rw[this]
theorem Es {n j:Nat} (f g:Nat→V) (h:j<n):dU n f g j=f j:=by
 show(Bool.rec (g (Nat.sub j n)) (f j) (Nat.blt j n):V)=f j
 have:Nat.blt j n=true:=Nat.ble_eq_true_of_le h
 rw[this]
theorem Et (n:Nat) (f g:Nat→V):dU n f g n=g 0:=by
 show(Bool.rec (g (Nat.sub n n)) (f n) (Nat.blt n n):V)=g 0
 have:Nat.blt n n=false:=by
  cases hb:Nat.blt n n with
  | false=>rfl
  | true=>exact absurd (Nat.le_of_ble_eq_true hb) (Nat.not_succ_le_self n)
 rw[this]
 exact congrArg g (Nat.sub_self n)
variable [Env] {vs:List V} {σ:St} {k:ah}
theorem vd (n:Nat) (q:Nat→aj):Go.Ev.Clean (V.arr n (fun i=>aj.enc (q i)) 7 false false):=
 Go.Ev.Clean.arr fun i _ u hu=>(q i).clean u hu
theorem Eu {n:Nat} {q:Nat→aj} {l:List SV} (hl:∀u∈l,u.clean):∀u∈SV.val (V.arr n (fun i=>aj.enc (q i)) 7 false false)::l,u.clean:=ax (vd n q) hl
theorem R6 {n:Nat} {f:Nat→V} {l:List SV} (h:∀i,i<n→∃t,(f i).cells=[V.str t]) (hl:∀u∈l,u.clean):∀u∈SV.row n f 1::l,u.clean:=ax (fun i hi u hu=>by
 obtain⟨t,ht⟩:=h i hi
 rw[ht,List.mem_singleton] at hu
 subst hu;exact Go.Ev.Clean.str _) hl
theorem LQ {n:Nat} {f:Nat→V} {q:Nat→aj} {b:Nat} {τ:St} {p:Bool} (hb:τ.heap.get b=some (.row n f 1 p)) (h:∀i,i<n→(f i).cells=[V.str (q i).f0]):dQ τ (.own b n 1) (.arr n (fun i=>V.str (q i).f0) 1 false false):=
 .own hb (fun i hi=>by rw[h i hi];exact .cons (.str _) .nil) fun _ _=>rfl
def Zs (n:Nat) (q:Nat→aj):Nat→List SV→Prop
 | 0,ss=>∃(i:Nat) (f:Nat→V),i≤n∧(∀j,j<n→∃t,(f j).cells=[V.str t])∧(∀j,j<i→(f j).cells=[V.str (q j).f0])∧ss=[.row n f 1,.val (V.arr n (fun i=>aj.enc (q i)) 7 false false),.val (.int .i64 ((n:Nat):Int)),.val (.int .i64 i)]
 | _,_=>False
theorem Pl (h:LG vs σ k):ag Tryz.prog 179 vs k σ:=by
 unfold LG at h
 split at h
 ·rename_i n f
  obtain⟨q,rfl,hn,h⟩:=h
  refine(ag.AO (Q:=fun u=>u=.arr n (fun i=>V.str (q i).f0) 1 false false) (aw (vd n q) cw) ?_).mono fun v τ ⟨h1,h2⟩=>by subst h1;subst h2;exact h
  refine F179.cG (live:=yW) (call:=B8) (n₀:=0) (σ:=Go.Ev.start) (fun h=>Er h) rfl 1 (by kernel_rfl) Nat.lt_wfRel.wf (fun _ ss=>n-cF ss) (Zs n q) ?_ ?_ ?_
  ·intro k ss hI
   cases k with
   | zero=>obtain⟨i,f,_,hf,_,rfl⟩:=hI;exact R6 hf (Eu (aF (aF bW)))
   | succ k=>exact hI.elim
  ·rw[Zb]
   simp only[Int.toNat_natCast]
   exact⟨⟨by omega,by omega,by omega,by omega⟩,⟨Nat.le_refl _,trivial⟩,0,_,by omega,fun j _=>⟨[],rfl⟩,fun j hj=>absurd hj (Nat.not_lt_zero j),rfl⟩
  ·intro k hk ss hI
   obtain rfl:k=0:=by omega
   obtain⟨i,f,hi,hf,hj,rfl⟩:=hI
   rw[Zc]
   refine⟨rfl,av (fun h1=>⟨⟨by omega,by omega⟩,⟨by omega,by omega⟩,by rw[eu];omega,⟨rfl,rfl⟩,?_⟩) fun h1=>?_⟩
   ·rw[eu,i64_in ((i:Int)+1) (by omega)]
    refine⟨⟨i+1,_,by omega,fun j R7=>?_,fun j jg=>?_,rfl⟩,?_⟩
    ·by_cases e:j=i
     ·subst e;exact⟨_,by rw[vb];rfl⟩
     ·rw[vc _ _ e];exact hf j R7
    ·by_cases e:j=i
     ·subst e;rw[vb];rfl
     ·rw[vc _ _ e];exact hj j (by omega)
    ·show n-((i:Int)+1).toNat<n-(i:Int).toNat
     omega
   ·obtain rfl:i=n:=by omega
    refine⟨_,LQ (p:=false) ?_ hj,rfl⟩
    show(St.new Go.Ev.start 0 (.row i f 1 false)).heap.get 0=_
    rw[ia,if_pos rfl]
 ·exact h.elim
theorem Ew:∀ {f:FuncId} {vs:List V} {σ:St} {k:ah},Hm f vs σ k→ag Tryz.prog f vs k σ:=fun h=>aR Pl Er h
theorem Pm (h:LH vs σ k):ag Tryz.prog 181 vs k σ:=by
 unfold LH at h
 obtain⟨⟨e,rfl⟩,h⟩:=h
 have h:k (.bool e.f2) σ:=h
 refine ag.eJ (aA e.aG bm) (.bool _) (F181.flat (live:=Ej) (call:=Hm) (n₀:=0) (σ:=Go.Ev.start) (fun h=>Ew h) rfl (by kernel_rfl) ?_) h
 rw[Zd]
theorem Ey:∀ {f:FuncId} {vs:List V} {σ:St} {k:ah},B9 f vs σ k→ag Tryz.prog f vs k σ:=fun h=>aR Pm Ew h
omit [Env] in
theorem mH (q:Nat→aj):∀n,eO q n=true↔∃i,i<n∧(q i).f2=true
 | 0=>⟨fun h=>(by cases h),fun⟨i,hi,_⟩=>absurd hi (Nat.not_lt_zero i)⟩
 | n+1=>by
  show(eO q n||(q n).f2)=true↔_
  rw[Bool.or_eq_true,mH q n]
  constructor
  ·rintro(⟨i,hi,e⟩ | e)
   ·exact⟨i,by omega,e⟩
   ·exact⟨n,by omega,e⟩
  ·rintro⟨i,hi,e⟩
   by_cases dy:i=n
   ·subst dy;exact .inr e
   ·exact .inl ⟨i,by omega,e⟩
def Zt (n:Nat) (q:Nat→aj):Nat→List SV→Prop
 | 0,ss=>∃i:Nat,i≤n∧(∀j,j<i→(q j).f2=false)∧ss=[.val (V.arr n (fun i=>aj.enc (q i)) 7 false false),.val (.func (.func 181) [] []),.val (.int .i64 ((n:Nat):Int)),.val (.int .i64 i)]
 | _,_=>False
def Zu (n:Nat) (q:Nat→aj) (v:V):Prop:=∃c:Int,(0≤c↔eO q n=true)∧v=.int .i64 c
theorem Pn (h:LI vs σ k):ag Tryz.prog 223 vs k σ:=by
 unfold LI at h
 split at h
 ·rename_i n f
  obtain⟨q,rfl,hn,h⟩:=h
  refine ag.aU (A:=Zu n q) (aA (vd n q) (aA (Go.Ev.Clean.func 181) bm)) (fun v hv=>by obtain⟨c,_,rfl⟩:=hv;exact .int _ _)
   (F223.cG (live:=yX) (call:=B9) (n₀:=0) (σ:=Go.Ev.start) (fun h=>Ey h) rfl 1 (by kernel_rfl) Nat.lt_wfRel.wf (fun _ ss=>n-cF ss) (Zt n q) ?_ ?_ ?_) fun v hv=>by obtain⟨c,hc,rfl⟩:=hv;exact h c hc
  ·intro k ss hI
   cases k with
   | zero=>obtain⟨i,_,_,rfl⟩:=hI;exact Eu (ax (Go.Ev.Clean.func 181) (aF (aF bW)))
   | succ k=>exact hI.elim
  ·rw[Ze]
   exact⟨0,by omega,fun j hj=>absurd hj (Nat.not_lt_zero j),rfl⟩
  ·intro k hk ss hI
   obtain rfl:k=0:=by omega
   obtain⟨i,hi,hj,rfl⟩:=hI
   rw[Zf]
   refine⟨rfl,av (fun h1=>⟨⟨by omega,by omega⟩,⟨_,rfl⟩,ae.mk (fun h2=>?_) fun h2=>?_⟩) fun h1=>?_⟩
   ·rw[eu] at h2
    exact⟨i,⟨fun _=>(mH q n).2 ⟨i,by omega,h2⟩,fun _=>by omega⟩,rfl⟩
   ·rw[eu] at h2
    rw[i64_in ((i:Int)+1) (by omega)]
    refine⟨⟨i+1,by omega,fun j jg=>?_,rfl⟩,?_⟩
    ·by_cases e:j=i
     ·subst e;exact h2
     ·exact hj j (by omega)
    ·show n-((i:Int)+1).toNat<n-(i:Int).toNat
     omega
   ·obtain rfl:i=n:=by omega
    refine⟨-1,⟨fun h=>by omega,fun h=>?_⟩,rfl⟩
    obtain⟨j,R7,e⟩:=(mH q i).1 h
    rw[hj j R7] at e;cases e
 ·exact h.elim
theorem Ez:∀ {f:FuncId} {vs:List V} {σ:St} {k:ah},Hn f vs σ k→ag Tryz.prog f vs k σ:=fun h=>aR Pn Ey h
theorem Po (h:LJ vs σ k):ag Tryz.prog 180 vs k σ:=by
 unfold LJ at h
 split at h
 ·rename_i n f
  obtain⟨q,rfl,hn,h⟩:=h
  refine ag.eJ (aA (vd n q) (aA (Go.Ev.Clean.func 181) bm)) (.bool _) (F180.flat (live:=Ek) (call:=Hn) (n₀:=0) (σ:=Go.Ev.start) (fun h=>Ez h) rfl (by kernel_rfl) ?_) h
  rw[Zg]
  refine⟨q,rfl,hn,fun c hc=>⟨rfl,av (fun h1=>?_) fun h1=>?_⟩⟩
  ·rw[hc.1 h1]
  ·have:eO q n=false:=by
    cases hb:eO q n with
    | false=>rfl
    | true=>exact absurd (hc.2 hb) h1
   rw[this]
 ·exact h.elim
theorem EA:∀ {f:FuncId} {vs:List V} {σ:St} {k:ah},Ho f vs σ k→ag Tryz.prog f vs k σ:=fun h=>aR Po Ez h
end
end Go.Proofs.YtbajncpfmemdgaaGreatDoor
end
section
namespace Go.Proofs.YtbajncpfmemdgaaGreatDoor
open Go Go.Ev Go.IntWalk
section
theorem cm (f:Nat→Int):∀n,cZ f n=0↔∀i,i<n→f i=0
 | 0=>⟨fun _ i hi=>absurd hi (Nat.not_lt_zero i),fun _=>rfl⟩
 | n+1=>by
  show(if cZ f n≠0 then cZ f n else f n)=0↔_
  have ih:=cm f n
  by_cases h:cZ f n=0
  ·rw[if_neg (by rw[h];exact fun h=>h rfl)]
   constructor
   ·intro e i hi
    by_cases dy:i=n
    ·rw[dy];exact e
    ·exact ih.1 h i (by omega)
   ·exact fun hh=>hh n (by omega)
  ·rw[if_pos h]
   exact⟨fun e=>absurd e h,fun hh=>absurd (ih.2 fun i hi=>hh i (by omega)) h⟩
theorem jC (f:Nat→Int):∀n i,i<n→f i≠0→(∀j,j<i→f j=0)→cZ f n=f i
 | 0,i,hi,_,_=>absurd hi (Nat.not_lt_zero i)
 | n+1,i,hi,bQ,hl=>by
  show(if cZ f n≠0 then cZ f n else f n)=f i
  by_cases e:i=n
  ·subst e
   rw[if_neg (by rw[(cm f i).2 hl];exact fun h=>h rfl)]
  ·have:=jC f n i (by omega) bQ hl
   rw[this,if_pos bQ]
theorem bf {α:Type} [Inhabited α] {l:List α} {i:Nat} (h:i<l.length):l.getD i default∈l:=by
 rw[List.getD_eq_getElem?_getD,List.getElem?_eq_getElem h]
 exact List.getElem_mem h
variable [Env] {vs:List V} {σ:St} {k:ah}
theorem R8 (e:aa):Go.Ev.Clean (af aj.enc 7 e.f2):=e.clean _ (List.mem_cons_of_mem _ (List.mem_cons_of_mem _ List.mem_cons_self))
theorem R9 (e:aa) {l:List SV} (hl:∀u∈l,u.clean):∀u∈SV.box [.str e.f0,.int .i64 e.f1,af aj.enc 7 e.f2]::l,u.clean:=ax e.clean hl
def qb (n:Int) (v:V):Prop:=(n=0∧v=.aW)∨(n≠0∧v=.iface 216 (.agg [.int .i64 n]))
theorem qb.fY (n:Int):∀v,qb n v→dE v:=fun v hv=>by
 rcases hv with ⟨_,rfl⟩ | ⟨_,rfl⟩
 ·exact .aW
 ·exact .iface (.agg (bU (.int _ _) ig))
omit [Env] in
theorem qb.bad {n x:Int} (h:n=x) (hx:x≠0):qb n (.iface 216 (.agg [.int .i64 x])):=.inr ⟨by rw[h];exact hx,by rw[h]⟩
omit [Env] in
theorem qb.Cb {n:Int} (h:n=0):qb n .aW:=.inl ⟨h,rfl⟩
theorem Pp (h:LK vs σ k):ag Tryz.prog 177 vs k σ:=by
 unfold LK at h
 obtain⟨e,rfl,dq,h⟩:=h
 refine ag.aU (A:=qb (bV e)) (aA e.aG bm) (qb.fY _) (F177.flat (live:=El) (call:=Ho) (n₀:=0) (σ:=Go.Ev.start) (fun h=>EA h) rfl (by kernel_rfl) ?_) fun v hv=>by
  rcases hv with ⟨h1,rfl⟩ | ⟨h1,rfl⟩
  ·exact h.1 h1
  ·exact h.2 h1
 rw[Zh]
 have hu:bV e=if aP e.f0≠0 then aP e.f0 else if e.f1<1∨e.f1>5 then 5 else if cq e.f3≠0 then cq e.f3 else if e.f3.f0≠0∧e.f3.f0≠e.f1 then 11 else 0:=rfl
 refine⟨rfl,av (fun h1=>?_) fun h1=>⟨rfl,av (fun h2=>?_) fun h2=>⟨rfl,av (fun h3=>?_) fun h3=>⟨dq,rfl,av (fun h4=>?_) fun h4=>⟨rfl,av (fun h5=>⟨rfl,av (fun h6=>?_) fun h6=>?_⟩) fun h5=>?_⟩⟩⟩⟩⟩
 ·exact .bad (by rw[hu,if_pos h1]) h1
 ·exact .bad (by rw[hu,if_neg h1,if_pos (.inl h2)]) (by decide)
 ·exact .bad (by rw[hu,if_neg h1,if_pos (.inr h3)]) (by decide)
 ·exact .bad (by rw[hu,if_neg h1,if_neg (by omega),if_pos h4]) h4
 ·exact .bad (by rw[hu,if_neg h1,if_neg (by omega),if_neg h4,if_pos ⟨h5,h6⟩]) (by decide)
 ·exact .Cb (by rw[hu,if_neg h1,if_neg (by omega),if_neg h4,if_neg fun hh=>h6 hh.2])
 ·exact .Cb (by rw[hu,if_neg h1,if_neg (by omega),if_neg h4,if_neg fun hh=>h5 hh.1])
theorem EB:∀ {f:FuncId} {vs:List V} {σ:St} {k:ah},Ca f vs σ k→ag Tryz.prog f vs k σ:=fun h=>aR Pp EA h
def fQ (e:aa) (i:Nat):aj:=e.f2.getD i default
omit [Env] in
theorem wI (e:aa):bB e=if aP e.f0≠0 then aP e.f0 else if e.f2.length<1∨e.f2.length>8 then 2 else if e.f1<1∨e.f1>3∨e.f1>e.f2.length then 1
 else if cZ (fun i=>bV (fQ e i)) e.f2.length≠0 then cZ (fun i=>bV (fQ e i)) e.f2.length
 else if gS (fun i=>(fQ e i).f0) e.f2.length=false then 12 else if eO (fQ e) e.f1.toNat=true then 11 else 0:=rfl
def ve (e:aa):Prop:=aP e.f0=0∧(1≤e.f2.length∧e.f2.length≤8)∧1≤e.f1∧e.f1≤3∧e.f1≤e.f2.length
omit [Env] in
theorem ve.err {e:aa} (h:ve e):bB e=if cZ (fun i=>bV (fQ e i)) e.f2.length≠0 then cZ (fun i=>bV (fQ e i)) e.f2.length
 else if gS (fun i=>(fQ e i).f0) e.f2.length=false then 12 else if eO (fQ e) e.f1.toNat=true then 11 else 0:=by
 obtain⟨h1,⟨h2,h3⟩,h4,h5,h6⟩:=h
 rw[wI,if_neg (fun h=>h h1),if_neg (by omega),if_neg (by omega)]
def Zv (e:aa):Nat→List SV→Prop
 | 0,ss=>ve e∧∃i:Nat,i≤e.f2.length∧(∀j,j<i→bV (fQ e j)=0)∧ss=[.box [.str e.f0,.int .i64 e.f1,af aj.enc 7 e.f2],.val (af aj.enc 7 e.f2),.val (.int .i64 ((e.f2.length:Nat):Int)),.val (.int .i64 i)]
 | _,_=>False
theorem Pq (h:LL vs σ k):ag Tryz.prog 134 vs k σ:=by
 unfold LL at h
 obtain⟨e,rfl,dq,h⟩:=h
 refine ag.aU (A:=qb (bB e)) (aA e.aG bm) (qb.fY _) (F134.cG (live:=yY) (call:=Ca) (n₀:=0) (σ:=Go.Ev.start) (fun h=>EB h) rfl 1 (by kernel_rfl) Nat.lt_wfRel.wf (fun _ ss=>e.f2.length-cF ss) (Zv e) ?_ ?_ ?_) fun v hv=>by
  rcases hv with ⟨h1,rfl⟩ | ⟨h1,rfl⟩
  ·exact h.1 h1
  ·exact h.2 h1
 ·intro k ss hI
  cases k with
  | zero=>obtain⟨_,i,_,_,rfl⟩:=hI;exact R9 e (ax (R8 e) (aF (aF bW)))
  | succ k=>exact hI.elim
 ·rw[Zi]
  refine⟨rfl,av (fun h1=>?_) fun h1=>⟨rfl,av (fun h2=>?_) fun h2=>⟨rfl,av (fun h3=>?_) fun h3=>⟨rfl,av (fun h4=>?_) fun h4=>⟨rfl,av (fun h5=>?_) fun h5=>?_⟩⟩⟩⟩⟩
  ·exact .bad (by rw[wI,if_pos h1]) h1
  ·exact .bad (by rw[wI,if_neg h1,if_pos (by omega)]) (by decide)
  ·exact .bad (by rw[wI,if_neg h1,if_pos (by omega)]) (by decide)
  ·exact .bad (by rw[wI,if_neg h1,if_neg (by omega),if_pos (.inl h4)]) (by decide)
  ·refine .bad ?_ (by decide)
   rw[wI,if_neg h1,if_neg (by omega),if_pos]
   split at h5<;>omega
  ·have:e.f1≤3∧e.f1≤e.f2.length:=by split at h5<;>omega
   exact⟨⟨Decidable.not_not.1 h1,⟨by omega,by omega⟩,by omega,this.1,this.2⟩,0,by omega,fun j hj=>absurd hj (Nat.not_lt_zero j),rfl⟩
 ·intro k hk ss hI
  obtain rfl:k=0:=by omega
  obtain⟨ht,i,hi,hj,rfl⟩:=hI
  have hlen:=ht.2.1
  rw[Zj]
  refine⟨rfl,av (fun h1=>⟨⟨by omega,by omega⟩,fQ e i,rfl,dq _ (bf (by omega)),fun h2=>?_,fun h2=>?_⟩) fun h1=>?_⟩
  ·rw[i64_in ((i:Int)+1) (by omega)]
   refine⟨⟨ht,i+1,by omega,fun j jg=>?_,rfl⟩,?_⟩
   ·by_cases e:j=i
    ·rw[e];exact h2
    ·exact hj j (by omega)
   ·show e.f2.length-((i:Int)+1).toNat<e.f2.length-(i:Int).toNat
    omega
  ·have hf:=jC (fun i=>bV (fQ e i)) e.f2.length i (by omega) h2 hj
   refine .bad ?_ h2
   rw[ht.err,hf,if_pos h2]
  ·obtain rfl:i=e.f2.length:=by omega
   have hf:=(cm (fun i=>bV (fQ e i)) e.f2.length).2 hj
   refine⟨fQ e,rfl,by omega,_,rfl,by omega,ae.mk (fun h2=>?_) fun h2=>⟨⟨by omega,by have:=ht.2.2;omega,by have:=ht.2.2;omega,by omega⟩,fQ e,?_,?_,ae.mk (fun h3=>?_) fun h3=>?_⟩⟩
   ·refine .bad ?_ (by decide)
    have h2:gS (fun i=>(fQ e i).f0) e.f2.length=false:=by simpa using h2
    rw[ht.err,if_neg (fun h=>h hf),if_pos h2]
   ·funext i
    show aj.enc (e.f2.getD (Nat.add 0 i) default)=_
    rw[show Nat.add 0 i=i from Nat.zero_add i];rfl
   ·have:=ht.2.2;omega
   ·have h2:gS (fun i=>(fQ e i).f0) e.f2.length=true:=by simpa using h2
    have h3:eO (fQ e) e.f1.toNat=true:=h3
    refine .bad ?_ (by decide)
    rw[ht.err,if_neg (fun h=>h hf),if_neg (by rw[h2];decide),if_pos h3]
   ·have h2:gS (fun i=>(fQ e i).f0) e.f2.length=true:=by simpa using h2
    refine .Cb ?_
    have h3:eO (fQ e) e.f1.toNat=false:=h3
    rw[ht.err,if_neg (fun h=>h hf),if_neg (by rw[h2];decide),if_neg (by rw[h3];decide)]
theorem Ps:∀ {f:FuncId} {vs:List V} {σ:St} {k:ah},RW f vs σ k→ag Tryz.prog f vs k σ:=fun h=>aR Pq EB h
variable [aE]
theorem Pt (h:LM vs σ k):ag Tryz.prog 133 vs k σ:=by
 unfold LM at h
 split at h
 ·exact Lt.mono fun v τ ⟨h1,h2⟩=>by subst h1;subst h2;exact h
 ·exact Lu.mono fun v τ ⟨h1,h2⟩=>by subst h1;subst h2;exact h
 ·exact h.elim
theorem EC:∀ {f:FuncId} {vs:List V} {σ:St} {k:ah},Hp f vs σ k→ag Tryz.prog f vs k σ:=fun h=>aR Pt Ps h
theorem Sa (h:RX vs σ k):ag Tryz.prog 81 vs k σ:=by
 unfold RX at h
 obtain⟨e,rfl,dq,h⟩:=h
 refine ag.eJ (aA e.aG bm) (.int _ _) (F81.flat (live:=JP) (call:=Hp) (n₀:=0) (σ:=Go.Ev.start) (fun h=>EC h) rfl (by kernel_rfl) ?_) h
 rw[e81]
 exact⟨e,rfl,dq,fun h1=>by rw[h1],fun _=>rfl⟩
theorem ED:∀ {f:FuncId} {vs:List V} {σ:St} {k:ah},Hq f vs σ k→ag Tryz.prog f vs k σ:=fun h=>aR Sa EC h
end
end Go.Proofs.YtbajncpfmemdgaaGreatDoor
end
section
namespace Go.Proofs.YtbajncpfmemdgaaGreatDoor
open Go Go.Ev Go.IntWalk
theorem lI {e:aa} (h:bB e=0):ve e∧∀i,i<e.f2.length→bV (fQ e i)=0:=by
 have h':=h
 rw[wI] at h
 split at h
 ·omega
 rename_i h1
 split at h
 ·omega
 rename_i h2
 split at h
 ·omega
 rename_i h3
 have ht:ve e:=⟨Decidable.not_not.1 h1,⟨by omega,by omega⟩,by omega,by omega,by omega⟩
 refine⟨ht,?_⟩
 split at h
 ·omega
 rename_i h4
 exact(cm (fun i=>bV (fQ e i)) e.f2.length).1 (Decidable.not_not.1 h4)
section
variable [Env] {vs:List V} {σ:St} {k:ah}
variable [aE]
end
end Go.Proofs.YtbajncpfmemdgaaGreatDoor
end
section
namespace Go.Proofs.YtbajncpfmemdgaaGreatDoor
open Go Go.Ev
def cM (x:Int) (m:Nat):Int:=IntKind.u8.wrap (x.fdiv (2^m))
def qN (x:Int):Nat→List UInt8
 | 0=>[]
 | j+1=>qN x j++[byteOf (cM x (56-8*j))]
end Go.Proofs.YtbajncpfmemdgaaGreatDoor
end
section
namespace Go.Proofs.YtbajncpfmemdgaaGreatDoor
open Go Go.Ev
end Go.Proofs.YtbajncpfmemdgaaGreatDoor
end
section
namespace Go.Proofs.YtbajncpfmemdgaaGreatDoor
open Go Go.Ev
end Go.Proofs.YtbajncpfmemdgaaGreatDoor
end
section
namespace Go.Proofs.YtbajncpfmemdgaaGreatDoor
open Go Go.Ev Go.IntWalk
section
variable [Env] [aE] {vs:List V} {σ:St} {k:ah}
omit [Env] [aE] in
theorem Ht {v:ay} (h:cq v=0):v.f3.length≤64:=by
 unfold cq at h
 repeat' split at h
 all_goals omega
end
end Go.Proofs.YtbajncpfmemdgaaGreatDoor
end
section
namespace Go.Proofs.YtbajncpfmemdgaaGreatDoor
open Go Go.Ev Go.IntWalk
section
variable [Env] [aE] {vs:List V} {σ:St} {k:ah}
omit [aE] in
theorem bH.mono {f:FuncId} {Q Q':ah} (h:bH Tryz.prog f vs Q σ) (hq:∀v τ,Q v τ→Q' v τ):bH Tryz.prog f vs Q' σ:=
 ⟨let ⟨v,τ,hx⟩:=h.ex;⟨v,τ,hq v τ hx⟩,fun ρ w vs' hr hv=>⟨(h.h ρ w vs' hr hv).1,(h.h ρ w vs' hr hv).2.mono fun e w' ⟨v,τ,ρ',v',h1,h2⟩=>⟨v,τ,ρ',v',hq v τ h1,h2⟩⟩⟩
end
end Go.Proofs.YtbajncpfmemdgaaGreatDoor
end
section
namespace Go.Proofs.YtbajncpfmemdgaaGreatDoor
open Go Go.Ev Go.IntWalk
noncomputable def t149 (B:Nat) (s:List UInt8):bD V:=wF [2,42] [.ptr B 0,.func (.func 236) [] [.aK [.str s] 0]]
section
variable [Env] {vs:List V} {σ:St} {k:ah}
noncomputable def t5 (B:Nat) (s:List UInt8) (c:Int):bD V:=((t149 B s).put 43 (.int .u8 c)).put 5 (.int .u8 c)
variable [aE]
end
end Go.Proofs.YtbajncpfmemdgaaGreatDoor
end
section
namespace Go.Proofs.YtbajncpfmemdgaaGreatDoor
open Go Go.Ev Go.IntWalk
section
variable [Env] {vs:List V} {σ:St} {k:ah}
variable [aE]
end
end Go.Proofs.YtbajncpfmemdgaaGreatDoor
end
section
namespace Go.Proofs.YtbajncpfmemdgaaGreatDoor
open Go Go.Ev
structure ak where
 f0:Int
 f1:(List UInt8)
 f2:(List UInt8)
 f3:(List UInt8)
 f4:(List UInt8)
 f5:(List UInt8)
 f6:Int
 f7:(List (List UInt8))
 f8:aj
 f9:aa
 deriving Inhabited
def ak.cells (e:ak):List V:=[.int .i64 e.f0,.str e.f1,.str e.f2,.str e.f3,.str e.f4,.str e.f5,.int .i64 e.f6,af V.str 1 e.f7,.str e.f8.f0,.int .i64 e.f8.f1,.bool e.f8.f2,.int .i64 e.f8.f3.f0,.int .i64 e.f8.f3.f1,.int .u64 e.f8.f3.f2,.str e.f8.f3.f3,.str e.f9.f0,.int .i64 e.f9.f1,af aj.enc 7 e.f9.f2]
def ak.enc (e:ak):V:=.agg e.cells
theorem ak.clean [Env] (e:ak):∀u∈e.cells,Go.Ev.Clean u:=aw (Go.Ev.Clean.int _ _) (aw (Go.Ev.Clean.str _) (aw (Go.Ev.Clean.str _) (aw (Go.Ev.Clean.str _) (aw (Go.Ev.Clean.str _) (aw (Go.Ev.Clean.str _) (aw (Go.Ev.Clean.int _ _) (aw (dh (enc:=V.str) fun _ _=>aw (Go.Ev.Clean.str _) cw) (aw (Go.Ev.Clean.str _) (aw (Go.Ev.Clean.int _ _) (aw (Go.Ev.Clean.bool _) (aw (Go.Ev.Clean.int _ _) (aw (Go.Ev.Clean.int _ _) (aw (Go.Ev.Clean.int _ _) (aw (Go.Ev.Clean.str _) (aw (Go.Ev.Clean.str _) (aw (Go.Ev.Clean.int _ _) (aw (dh (enc:=aj.enc) fun x _=>aj.clean x) cw)))))))))))))))))
theorem ak.size (e:ak):e.cells.length=18:=rfl
structure nA where
 f0:Int
 f1:(List UInt8)
 f2:(List ay)
 f3:(List ay)
 f4:(List ay)
 f5:Int
 f6:ak
 deriving Inhabited
def nA.cells (e:nA):List V:=[.int .i64 e.f0,.str e.f1,af ay.enc 4 e.f2,af ay.enc 4 e.f3,af ay.enc 4 e.f4,.int .i64 e.f5,.int .i64 e.f6.f0,.str e.f6.f1,.str e.f6.f2,.str e.f6.f3,.str e.f6.f4,.str e.f6.f5,.int .i64 e.f6.f6,af V.str 1 e.f6.f7,.str e.f6.f8.f0,.int .i64 e.f6.f8.f1,.bool e.f6.f8.f2,.int .i64 e.f6.f8.f3.f0,.int .i64 e.f6.f8.f3.f1,.int .u64 e.f6.f8.f3.f2,.str e.f6.f8.f3.f3,.str e.f6.f9.f0,.int .i64 e.f6.f9.f1,af aj.enc 7 e.f6.f9.f2]
def nA.enc (e:nA):V:=.agg e.cells
theorem nA.clean [Env] (e:nA):∀u∈e.cells,Go.Ev.Clean u:=aw (Go.Ev.Clean.int _ _) (aw (Go.Ev.Clean.str _) (aw (dh (enc:=ay.enc) fun x _=>ay.clean x) (aw (dh (enc:=ay.enc) fun x _=>ay.clean x) (aw (dh (enc:=ay.enc) fun x _=>ay.clean x) (aw (Go.Ev.Clean.int _ _) (aw (Go.Ev.Clean.int _ _) (aw (Go.Ev.Clean.str _) (aw (Go.Ev.Clean.str _) (aw (Go.Ev.Clean.str _) (aw (Go.Ev.Clean.str _) (aw (Go.Ev.Clean.str _) (aw (Go.Ev.Clean.int _ _) (aw (dh (enc:=V.str) fun _ _=>aw (Go.Ev.Clean.str _) cw) (aw (Go.Ev.Clean.str _) (aw (Go.Ev.Clean.int _ _) (aw (Go.Ev.Clean.bool _) (aw (Go.Ev.Clean.int _ _) (aw (Go.Ev.Clean.int _ _) (aw (Go.Ev.Clean.int _ _) (aw (Go.Ev.Clean.str _) (aw (Go.Ev.Clean.str _) (aw (Go.Ev.Clean.int _ _) (aw (dh (enc:=aj.enc) fun x _=>aj.clean x) cw)))))))))))))))))))))))
theorem nA.size (e:nA):e.cells.length=24:=rfl
def EE (p:Prop) (σ:St) (k:ah):Prop:=p∧k (.int .i64 0) σ∧k (.int .i64 1) σ
def loQ (o:nA) (i:Nat):ay:=o.f3.getD i default
def hiQ (o:nA) (i:Nat):ay:=o.f4.getD i default
def Ot (o:nA):Prop:=(∀v∈o.f3,yR v)∧∀v∈o.f4,yR v
def J2:Nat→List Nat:=(fun _=>[])
theorem e69 [Env] (A:Nat→List SV→Prop) (Q:V→Prop) (e:ay):WE Tryz.prog 69 Tryz.f69 Hq 0 J2 A (fun v _=>Q v) [ay.enc e] Go.Ev.start=
  (((.i64:IntKind)=.i64∧ae (decide ((((len e.f3:Nat):Int))>(2000:Int))) (Q (.int .i64 (0:Int))) (Q (.int .i64 (1:Int))))):=by kernel_rfl
def Xp [Env] (vs:List V) (σ:St) (k:ah):Prop:=
 EE (∃e:ay,vs=[ay.enc e]) σ k
def ue [Env]:=kS 69 Xp Hq
def qO:Nat→List Nat:=(fun i=>match i with | 0=>[0,3] | _=>[])
theorem Ou [Env] (A:Nat→List SV→Prop) (Q:V→Prop) (l:List (List UInt8)):WE Tryz.prog 68 Tryz.f68 ue 0 qO A (fun v _=>Q v) [af V.str 1 l] Go.Ev.start=
  (((.i64:IntKind)=.i64∧ae (decide ((((l.length:Nat):Int))>(60:Int))) (Q (.int .i64 (0:Int))) (A 0 [.val (af V.str 1 l),.val (.int .i64 (0:Int))]))):=by kernel_rfl
theorem Xq [Env] (A:Nat→List SV→Prop) (Q:V→Prop) (l:List (List UInt8)) (i:Int):WL Tryz.prog 68 Tryz.f68 ue 0 qO A (fun v _=>Q v) 0 [.val (af V.str 1 l),.val (.int .i64 i)]=
  (((.i64:IntKind)=.i64∧ae (decide (i<(((l.length:Nat):Int)))) (((0≤i∧i<((l.length:Nat):Int))∧((.i64:IntKind)=.i64∧ae (decide ((((len ((l.getD i.toNat default)):Nat):Int))>(500:Int))) (Q (.int .i64 (0:Int))) (A 0 [.val (af V.str 1 l),.val (.int .i64 (IntKind.i64.wrap (i+(1:Int))))])))) (Q (.int .i64 (1:Int))))):=by kernel_rfl
def Xr [Env] (vs:List V) (σ:St) (k:ah):Prop:=
 EE (∃l:List (List UInt8),bn σ vs [af V.str 1 l]) σ k
def y0 [Env]:=kS 68 Xr ue
def xR:Nat→List Nat:=(fun i=>match i with | 0=>[1,3] | _=>[])
theorem J3 [Env] (A:Nat→List SV→Prop) (Q:V→Prop) (e:aa):WE Tryz.prog 52 Tryz.f52 y0 0 xR A (fun v _=>Q v) [aa.enc e] Go.Ev.start=
  (((.i64:IntKind)=.i64∧ae (decide ((((e.f2.length:Nat):Int))>(20:Int))) (Q (.int .i64 (0:Int))) (((.i64:IntKind)=.i64∧ae (decide ((((len e.f0:Nat):Int))>(500:Int))) (Q (.int .i64 (0:Int))) (A 0 [.box [.str e.f0,.int .i64 e.f1,af aj.enc 7 e.f2],.val (.int .i64 (0:Int))]))))):=by kernel_rfl
theorem r52 [Env] (A:Nat→List SV→Prop) (Q:V→Prop) (e:aa) (i:Int):WL Tryz.prog 52 Tryz.f52 y0 0 xR A (fun v _=>Q v) 0 [.box [.str e.f0,.int .i64 e.f1,af aj.enc 7 e.f2],.val (.int .i64 i)]=
  (((.i64:IntKind)=.i64∧ae (decide (i<(((e.f2.length:Nat):Int)))) (((0≤i∧i<((e.f2.length:Nat):Int))∧((.i64:IntKind)=.i64∧ae (decide ((((len ((e.f2.getD i.toNat default).f0):Nat):Int))>(500:Int))) (Q (.int .i64 (0:Int))) (((0≤i∧i<((e.f2.length:Nat):Int))∧((∃q13:ay,[.agg [.int .i64 ((e.f2.getD i.toNat default).f3.f0),.int .i64 ((e.f2.getD i.toNat default).f3.f1),.int .u64 ((e.f2.getD i.toNat default).f3.f2),.str ((e.f2.getD i.toNat default).f3.f3)]]=[ay.enc q13])∧((.i64:IntKind)=.i64∧Q (.int .i64 (0:Int)))∧((.i64:IntKind)=.i64∧A 0 [.box [.str e.f0,.int .i64 e.f1,af aj.enc 7 e.f2],.val (.int .i64 (IntKind.i64.wrap (i+(1:Int))))]))))))) (Q (.int .i64 (1:Int))))):=by kernel_rfl
def Xs [Env] (vs:List V) (σ:St) (k:ah):Prop:=
 EE (∃e:aa,vs=[aa.enc e]) σ k
def Hu [Env]:=kS 52 Xs y0
def xS:Nat→List Nat:=(fun _=>[])
theorem Ov [Env] (A:Nat→List SV→Prop) (Q:V→Prop) (e:ak):WE Tryz.prog 28 Tryz.f28 Hu 0 xS A (fun v _=>Q v) [ak.enc e] Go.Ev.start=
  (((∃q14:List (List UInt8),bn ⟨(St.new (St.new Go.Ev.start 0 (.cells 18 [] (an [.int .i64 e.f0,.str e.f1,.str e.f2,.str e.f3,.str e.f4,.str e.f5,.int .i64 e.f6,af V.str 1 e.f7,.str e.f8.f0,.int .i64 e.f8.f1,.bool e.f8.f2,.int .i64 e.f8.f3.f0,.int .i64 e.f8.f3.f1,.int .u64 e.f8.f3.f2,.str e.f8.f3.f3,.str e.f9.f0,.int .i64 e.f9.f1,af aj.enc 7 e.f9.f2] .leaf 0) true false)) 1 (.cells 6 [] (an [.str e.f1,.str e.f2,.str e.f3,.str e.f4,.str e.f5,.str e.f8.f0] .leaf 0) true false)).heap,2⟩ [af V.str 1 e.f7] [af V.str 1 q14])∧((.i64:IntKind)=.i64∧Q (.int .i64 (0:Int)))∧((.i64:IntKind)=.i64∧((∃q15:List (List UInt8),bn ⟨(St.new (St.new Go.Ev.start 0 (.cells 18 [] (an [.int .i64 e.f0,.str e.f1,.str e.f2,.str e.f3,.str e.f4,.str e.f5,.int .i64 e.f6,af V.str 1 e.f7,.str e.f8.f0,.int .i64 e.f8.f1,.bool e.f8.f2,.int .i64 e.f8.f3.f0,.int .i64 e.f8.f3.f1,.int .u64 e.f8.f3.f2,.str e.f8.f3.f3,.str e.f9.f0,.int .i64 e.f9.f1,af aj.enc 7 e.f9.f2] .leaf 0) true false)) 1 (.cells 6 [] (an [.str e.f1,.str e.f2,.str e.f3,.str e.f4,.str e.f5,.str e.f8.f0] .leaf 0) true false)).heap,2⟩ [.slice 1 0 (6) (6) true 1] [af V.str 1 q15])∧((.i64:IntKind)=.i64∧Q (.int .i64 (0:Int)))∧((.i64:IntKind)=.i64∧((∃q16:aa,[.agg [.str e.f9.f0,.int .i64 e.f9.f1,af aj.enc 7 e.f9.f2]]=[aa.enc q16])∧((.i64:IntKind)=.i64∧Q (.int .i64 (0:Int)))∧((.i64:IntKind)=.i64∧((∃q17:ay,[.agg [.int .i64 e.f8.f3.f0,.int .i64 e.f8.f3.f1,.int .u64 e.f8.f3.f2,.str e.f8.f3.f3]]=[ay.enc q17])∧((.i64:IntKind)=.i64∧Q (.int .i64 (0:Int)))∧((.i64:IntKind)=.i64∧Q (.int .i64 (1:Int))))))))))):=by kernel_rfl
def Xt [Env] (vs:List V) (σ:St) (k:ah):Prop:=
 EE (∃e:ak,vs=[ak.enc e]) σ k
def Hv [Env]:=kS 28 Xt Hu
end Go.Proofs.YtbajncpfmemdgaaGreatDoor
end
section
namespace Go.Proofs.YtbajncpfmemdgaaGreatDoor
open Go Go.Ev
end Go.Proofs.YtbajncpfmemdgaaGreatDoor
end
section
namespace Go.Proofs.YtbajncpfmemdgaaGreatDoor
open Go Go.Ev Go.IntWalk
theorem F69:bS Tryz.prog 69 Tryz.f69:=.of (by kernel_rfl) (by kernel_rfl)
theorem F68:bS Tryz.prog 68 Tryz.f68:=.of (by kernel_rfl) (by kernel_rfl)
theorem F52:bS Tryz.prog 52 Tryz.f52:=.of (by kernel_rfl) (by kernel_rfl)
theorem F28:bS Tryz.prog 28 Tryz.f28:=.of (by kernel_rfl) (by kernel_rfl)
theorem ak.aG [Env] (e:ak):Go.Ev.Clean (ak.enc e):=Go.Ev.Clean.agg e.clean
theorem nA.aG [Env] (e:nA):Go.Ev.Clean (nA.enc e):=Go.Ev.Clean.agg e.clean
section
variable [Env] {vs:List V} {σ:St} {k:ah}
theorem uf {v:V} (h:Go.Ev.Clean v):bn σ [v] [v]:=.cons (.clean h) .nil
variable [aE]
def Z (v:V):Prop:=v=.int .i64 0∨v=.int .i64 1
omit [Env] in
theorem Z.fY (v:V) (h:Z v):V.fY v=true:=by rcases h with rfl | rfl<;>rfl
omit [aE] in
theorem ug {f:FuncId} {us:List V} {p:Prop} (hf:bn σ vs us) (h:ag Tryz.prog f us (fun v _=>Z v) Go.Ev.start) (ht:EE p σ k):ag Tryz.prog f vs k σ:=
 ag.JI hf Z.fY h fun v hv=>by
  rcases hv with rfl | rfl
  ·exact ht.2.1
  ·exact ht.2.2
omit [Env] in
theorem z0:Z (.int .i64 0):=.inl rfl
omit [Env] in
theorem z1:Z (.int .i64 1):=.inr rfl
theorem Sb (h:Xp vs σ k):ag Tryz.prog 69 vs k σ:=by
 obtain⟨e,rfl⟩:=h.1
 refine ug (uf e.aG) (F69.flat (live:=J2) (call:=Hq) (n₀:=0) (fun h=>ED h) rfl (by kernel_rfl) ?_) h
 rw[e69]
 exact⟨rfl,ae.mk (fun _=>z0) fun _=>z1⟩
theorem qP:∀ {f:FuncId} {vs:List V} {σ:St} {k:ah},ue f vs σ k→ag Tryz.prog f vs k σ:=fun h=>aR Sb ED h
def J4 {α:Type} [Inhabited α] (enc:α→V) (esz:Nat) (l:List α):Nat→List SV→Prop
 | 0,ss=>∃i:Int,0≤i∧i≤l.length∧ss=[.val (af enc esz l),.val (.int .i64 i)]
 | _,_=>False
omit [aE] in
theorem pD {α:Type} [Inhabited α] {enc:α→V} {esz:Nat} {l:List α} (hc:Go.Ev.Clean (af enc esz l)):∀k ss,J4 enc esz l k ss→∀s∈ss,s.clean:=by
 intro k ss hI s hs
 cases k with
 | zero=>
  obtain⟨i,_,_,rfl⟩:=hI
  simp only[List.mem_cons,List.not_mem_nil,or_false] at hs
  rcases hs with rfl | rfl
  ·exact hc
  ·exact Go.Ev.Clean.int _ _
 | succ k=>exact hI.elim
omit [Env] in
theorem iA (v:V) (i:Int):cF [.val v,.val (.int .i64 i)]=i.toNat:=by cases v<;>rfl
omit [Env] in
theorem lJ {α:Type} [Inhabited α] (enc:α→V) (l:List α):bY l.length (fun i=>enc (l.getD i default))=l.map enc:=by
 apply List.ext_getElem?
 intro i
 by_cases h:i<l.length
 ·rw[c9 h,List.getElem?_map,List.getElem?_eq_getElem h,List.getD_eq_getElem?_getD,List.getElem?_eq_getElem h];rfl
 ·rw[List.getElem?_eq_none (by rw[aT];omega),List.getElem?_eq_none (by rw[List.length_map];omega)]
omit [aE] in
theorem Ac {b n cap:Nat} {ex:Bool} (ls:List (List UInt8)) (hn:ls.length=n) (h:σ.cells b 0 (n*1)=some (ls.map V.str)):bn σ [V.slice b 0 n cap ex 1] [af V.str 1 ls]:=by
 have e1:∀l:List (List UInt8),ar (l.map V.str)=l.map V.str:=by
  intro l
  induction l with
  | nil=>rfl
  | cons x l ih=>rw[List.map_cons,bO,ih];rfl
 have e2:∀l:List (List UInt8),bn σ (l.map V.str) (l.map V.str):=fun l=>bn.clean fun v hv=>by
  obtain⟨x,_,rfl⟩:=List.mem_map.1 hv
  exact Go.Ev.Clean.str x
 refine .cons (.jM (.slice h ?_ ?_ ?_)) .nil
 ·rw[lJ,e1];exact e2 ls
 ·rw[lJ]
  intro v hv
  obtain⟨x,_,rfl⟩:=List.mem_map.1 hv
  rfl
 ·rw[aT,hn]
theorem Sc (h:Xr vs σ k):ag Tryz.prog 68 vs k σ:=by
 obtain⟨l,hf⟩:=h.1
 have hc:Go.Ev.Clean (af V.str 1 l):=dh fun _ _=>aw (Go.Ev.Clean.str _) cw
 refine ug hf ?_ h
 by_cases hl:l.length≤60
 ·refine F68.cG (live:=qO) (call:=ue) (n₀:=0) (fun h=>qP h) rfl 1 (by kernel_rfl) Nat.lt_wfRel.wf (fun _ ss=>60-cF ss) (J4 V.str 1 l) (pD hc) ?_ ?_
  ·rw[Ou]
   exact⟨rfl,ae.mk (fun e=>absurd (of_decide_eq_true e) (by omega)) fun _=>⟨0,by omega,by omega,rfl⟩⟩
  ·intro k hk ss hI
   obtain rfl:k=0:=by omega
   obtain⟨i,h0,h1,rfl⟩:=hI
   rw[Xq]
   refine⟨rfl,ae.mk (fun e=>?_) fun _=>z1⟩
   have e:=of_decide_eq_true e
   refine⟨⟨h0,e⟩,rfl,ae.mk (fun _=>z0) fun _=>⟨⟨i+1,by omega,by omega,by rw[i64_in _ (by omega)]⟩,?_⟩⟩
   rw[i64_in _ (by omega),iA,iA]
   show 60-(i+1).toNat<60-i.toNat
   omega
 ·refine F68.cG (live:=qO) (call:=ue) (n₀:=0) (fun h=>qP h) rfl 1 (by kernel_rfl) Nat.lt_wfRel.wf (fun _ _=>0) (fun _ _=>False) (fun _ _ h=>h.elim) ?_ fun _ _ _ h=>h.elim
  rw[Ou]
  exact⟨rfl,ae.mk (fun _=>z0) fun e=>absurd (of_decide_eq_false e) (by omega)⟩
theorem y4:∀ {f:FuncId} {vs:List V} {σ:St} {k:ah},y0 f vs σ k→ag Tryz.prog f vs k σ:=fun h=>aR Sc qP h
def I52 (e:aa):Nat→List SV→Prop
 | 0,ss=>∃i:Int,0≤i∧i≤e.f2.length∧ss=[.box [.str e.f0,.int .i64 e.f1,af aj.enc 7 e.f2],.val (.int .i64 i)]
 | _,_=>False
theorem Sd (h:Xs vs σ k):ag Tryz.prog 52 vs k σ:=by
 obtain⟨e,rfl⟩:=h.1
 refine ug (uf e.aG) ?_ h
 by_cases hl:e.f2.length≤20
 ·refine F52.cG (live:=xR) (call:=y0) (n₀:=0) (fun h=>y4 h) rfl 1 (by kernel_rfl) Nat.lt_wfRel.wf (fun _ ss=>20-cF ss) (I52 e) ?_ ?_ ?_
  ·intro k ss hI s hs
   cases k with
   | zero=>
    obtain⟨i,_,_,rfl⟩:=hI
    simp only[List.mem_cons,List.not_mem_nil,or_false] at hs
    rcases hs with rfl | rfl
    ·exact e.clean
    ·exact Go.Ev.Clean.int _ _
   | succ k=>exact hI.elim
  ·rw[J3]
   exact⟨rfl,ae.mk (fun e=>absurd (of_decide_eq_true e) (by omega)) fun _=>⟨rfl,ae.mk (fun _=>z0) fun _=>⟨0,by omega,by omega,rfl⟩⟩⟩
  ·intro k hk ss hI
   obtain rfl:k=0:=by omega
   obtain⟨i,h0,h1,rfl⟩:=hI
   rw[r52]
   refine⟨rfl,ae.mk (fun q=>?_) fun _=>z1⟩
   have q:=of_decide_eq_true q
   refine⟨⟨h0,q⟩,rfl,ae.mk (fun _=>z0) fun _=>⟨⟨h0,q⟩,⟨(e.f2.getD i.toNat default).f3,rfl⟩,⟨rfl,z0⟩,rfl,⟨i+1,by omega,by omega,by rw[i64_in _ (by omega)]⟩,?_⟩⟩
   rw[i64_in _ (by omega)]
   show 20-(i+1).toNat<20-i.toNat
   omega
 ·refine F52.cG (live:=xR) (call:=y0) (n₀:=0) (fun h=>y4 h) rfl 1 (by kernel_rfl) Nat.lt_wfRel.wf (fun _ _=>0) (fun _ _=>False) (fun _ _ h=>h.elim) ?_ fun _ _ _ h=>h.elim
  rw[J3]
  exact⟨rfl,ae.mk (fun _=>z0) fun e=>absurd (of_decide_eq_false e) (by omega)⟩
theorem EF:∀ {f:FuncId} {vs:List V} {σ:St} {k:ah},Hu f vs σ k→ag Tryz.prog f vs k σ:=fun h=>aR Sd y4 h
theorem Se (h:Xt vs σ k):ag Tryz.prog 28 vs k σ:=by
 obtain⟨e,rfl⟩:=h.1
 refine ug (uf e.aG) (F28.flat (live:=xS) (call:=Hu) (n₀:=0) (fun h=>EF h) rfl (by kernel_rfl) ?_) h
 rw[Ov]
 refine⟨⟨e.f7,uf (dh fun _ _=>aw (Go.Ev.Clean.str _) cw)⟩,⟨rfl,z0⟩,rfl,⟨[e.f1,e.f2,e.f3,e.f4,e.f5,e.f8.f0],Ac _ rfl (by kernel_rfl)⟩,⟨rfl,z0⟩,rfl,⟨e.f9,rfl⟩,⟨rfl,z0⟩,rfl,⟨e.f8.f3,rfl⟩,⟨rfl,z0⟩,rfl,z1⟩
theorem EG:∀ {f:FuncId} {vs:List V} {σ:St} {k:ah},Hv f vs σ k→ag Tryz.prog f vs k σ:=fun h=>aR Se EF h
end
end Go.Proofs.YtbajncpfmemdgaaGreatDoor
end
section
namespace Go.Proofs.YtbajncpfmemdgaaGreatDoor.xT
open Go.Ev
theorem qc:Tryz.prog.follows .mixedOrders=true:=by kernel_rfl
abbrev i (n:Int):V:=.int .i64 n
def bs (l:List Nat):V:=.str (l.map UInt8.ofNat)
noncomputable def cl (l:List V):Trie V:=an l .leaf 0
noncomputable def cs (l:List (Nat×V)):Trie V:=AL l .leaf
noncomputable def cat (l:List (List V)):List V:=List.rec (motive:=fun _=>List V) [] (fun a _ ih=>app a ih) l
theorem Sf {P:Program} {a0 a1 a2:Ev.Told} (h0:a0.ok P) (h1:a1.ok P) (h2:a2.ok P):∀e∈[a0,a1,a2],e.ok P:=by
 intro e he
 simp only[List.mem_cons,List.not_mem_nil,or_false] at he
 rcases he with rfl | rfl | rfl
 ·exact h0
 ·exact h1
 ·exact h2
end Go.Proofs.YtbajncpfmemdgaaGreatDoor.xT
end
section
set_option maxRecDepth 100000
namespace Go.Proofs.YtbajncpfmemdgaaGreatDoor.xT
open Go.Ev
noncomputable def t1:Ev.Told where
 f:=47
 args:=[.ai,.agg [i 6,bs [],.ai,.ai,.ai,i 0,i 1,bs [],bs [],bs [],bs [],bs [],i 0,.ai,bs [],i 0,.bool false,i 0,i 0,.int .u64 0,bs [],bs [116],i 1,.slice 31 0 2 2 true 7]]
 pre:=[(31,.cells 14 [] (cl ([bs [107],i 2,.bool false,i 0,i 0,.int .u64 0,bs [],bs [118],i 5,.bool true,i 0,i 0,.int .u64 0,bs []])) true false)]
 now:=41
 v:=.tuple [.slice 196 0 1 1 false 4,.agg [i 0,.ai]]
 post:=[(31,some (.cells 14 [] (cl ([bs [107],i 2,.bool false,i 0,i 0,.int .u64 0,bs [],bs [118],i 5,.bool true,i 0,i 0,.int .u64 0,bs []])) true false)),(191,some (.cells 14 [] (cl ([bs [107],i 2,.bool false,i 0,i 0,.int .u64 0,bs [],bs [118],i 5,.bool true,i 0,i 0,.int .u64 0,bs []])) true false)),(196,some (.cells 4 [] (cl ([bs [116],i 1,.slice 191 0 2 2 false 7,.ai])) true false))]
 then':=197
theorem Ow:t1.ok Tryz.prog:=Ev.Told.mb (O:=[]) qc (fun _ h=>by cases h) 100000 (by kernel_rfl)
noncomputable def t2:Ev.Told where
 f:=47
 args:=[.slice 196 0 1 1 false 4,.agg [i 3,bs [116],.slice 32 0 2 2 true 4,.ai,.ai,i 0,i 0,bs [],bs [],bs [],bs [],bs [],i 0,.ai,bs [],i 0,.bool false,i 0,i 0,.int .u64 0,bs [],bs [],i 0,.ai]]
 pre:=[(32,.cells 8 [] (cl ([i 2,i 1,.int .u64 0,bs [],i 5,i 0,.int .u64 0,bs [53]])) true false),(191,.cells 14 [] (cl ([bs [107],i 2,.bool false,i 0,i 0,.int .u64 0,bs [],bs [118],i 5,.bool true,i 0,i 0,.int .u64 0,bs []])) true false),(196,.cells 4 [] (cl ([bs [116],i 1,.slice 191 0 2 2 false 7,.ai])) true false)]
 now:=201
 v:=.tuple [.slice 494 0 1 1 false 4,.agg [i 0,.ai]]
 post:=[(32,some (.cells 8 [] (cl ([i 2,i 1,.int .u64 0,bs [],i 5,i 0,.int .u64 0,bs [53]])) true false)),(191,some (.cells 14 [] (cl ([bs [107],i 2,.bool false,i 0,i 0,.int .u64 0,bs [],bs [118],i 5,.bool true,i 0,i 0,.int .u64 0,bs []])) true false)),(196,some (.cells 4 [] (cl ([bs [116],i 1,.slice 191 0 2 2 false 7,.ai])) true false)),(481,some (.cells 8 [] (cl ([i 2,i 1,.int .u64 0,bs [],i 5,i 0,.int .u64 0,bs [53]])) true false)),(487,some (.cells 2 [] (cl ([bs [2,128,0,0,0,0,0,0,1],.slice 481 0 2 2 false 4])) true false)),(494,some (.cells 4 [] (cl ([bs [116],i 1,.slice 191 0 2 2 false 7,.slice 487 0 1 1 false 2])) true false))]
 then':=499
theorem Ox:t2.ok Tryz.prog:=Ev.Told.mb (O:=[]) qc (fun _ h=>by cases h) 100000 (by kernel_rfl)
noncomputable def t3:Ev.Told where
 f:=47
 args:=[.slice 494 0 1 1 false 4,.agg [i 3,bs [116],.slice 35 0 2 2 true 4,.ai,.ai,i 0,i 0,bs [],bs [],bs [],bs [],bs [],i 0,.ai,bs [],i 0,.bool false,i 0,i 0,.int .u64 0,bs [],bs [],i 0,.ai]]
 pre:=[(35,.cells 8 [] (cl ([i 2,i 2,.int .u64 0,bs [],i 5,i 0,.int .u64 0,bs [55]])) true false),(191,.cells 14 [] (cl ([bs [107],i 2,.bool false,i 0,i 0,.int .u64 0,bs [],bs [118],i 5,.bool true,i 0,i 0,.int .u64 0,bs []])) true false),(487,.cells 2 [] (cl ([bs [2,128,0,0,0,0,0,0,1],.slice 481 0 2 2 false 4])) true false),(494,.cells 4 [] (cl ([bs [116],i 1,.slice 191 0 2 2 false 7,.slice 487 0 1 1 false 2])) true false)]
 now:=824
 v:=.tuple [.slice 1120 0 1 1 false 4,.agg [i 0,.ai]]
 post:=[(35,some (.cells 8 [] (cl ([i 2,i 2,.int .u64 0,bs [],i 5,i 0,.int .u64 0,bs [55]])) true false)),(191,some (.cells 14 [] (cl ([bs [107],i 2,.bool false,i 0,i 0,.int .u64 0,bs [],bs [118],i 5,.bool true,i 0,i 0,.int .u64 0,bs []])) true false)),(487,some (.cells 2 [] (cl ([bs [2,128,0,0,0,0,0,0,1],.slice 481 0 2 2 false 4])) true false)),(494,some (.cells 4 [] (cl ([bs [116],i 1,.slice 191 0 2 2 false 7,.slice 487 0 1 1 false 2])) true false)),(1107,some (.cells 8 [] (cl ([i 2,i 2,.int .u64 0,bs [],i 5,i 0,.int .u64 0,bs [55]])) true false)),(1113,some (.cells 4 [] (cl ([bs [2,128,0,0,0,0,0,0,1],.slice 481 0 2 2 false 4,bs [2,128,0,0,0,0,0,0,2],.slice 1107 0 2 2 false 4])) true false)),(1120,some (.cells 4 [] (cl ([bs [116],i 1,.slice 191 0 2 2 false 7,.slice 1113 0 2 2 false 2])) true false))]
 then':=1125
theorem Oy:t3.ok Tryz.prog:=Ev.Told.mb (O:=[]) qc (fun _ h=>by cases h) 100000 (by kernel_rfl)
noncomputable def t4:Ev.Told where
 f:=47
 args:=[.slice 1120 0 1 1 false 4,.agg [i 2,bs [116],.ai,.ai,.ai,i 5,i 0,bs [],bs [],bs [],bs [],bs [],i 0,.ai,bs [],i 0,.bool false,i 0,i 0,.int .u64 0,bs [],bs [],i 0,.ai]]
 pre:=[(191,.cells 14 [] (cl ([bs [107],i 2,.bool false,i 0,i 0,.int .u64 0,bs [],bs [118],i 5,.bool true,i 0,i 0,.int .u64 0,bs []])) true false),(1113,.cells 4 [] (cl ([bs [2,128,0,0,0,0,0,0,1],.slice 481 0 2 2 false 4,bs [2,128,0,0,0,0,0,0,2],.slice 1107 0 2 2 false 4])) true false),(1120,.cells 4 [] (cl ([bs [116],i 1,.slice 191 0 2 2 false 7,.slice 1113 0 2 2 false 2])) true false)]
 now:=1129
 v:=.tuple [.slice 1120 0 1 1 false 4,.agg [i 0,.slice 1288 0 2 2 false 1]]
 post:=[(191,some (.cells 14 [] (cl ([bs [107],i 2,.bool false,i 0,i 0,.int .u64 0,bs [],bs [118],i 5,.bool true,i 0,i 0,.int .u64 0,bs []])) true false)),(1113,some (.cells 4 [] (cl ([bs [2,128,0,0,0,0,0,0,1],.slice 481 0 2 2 false 4,bs [2,128,0,0,0,0,0,0,2],.slice 1107 0 2 2 false 4])) true false)),(1120,some (.cells 4 [] (cl ([bs [116],i 1,.slice 191 0 2 2 false 7,.slice 1113 0 2 2 false 2])) true false)),(1288,some (.cells 2 [] (cl ([.slice 481 0 2 2 true 4,.slice 1107 0 2 2 true 4])) true false))]
 then':=1293
noncomputable def t5:Ev.Told where
 f:=47
 args:=[.slice 1120 0 1 1 false 4,.agg [i 6,bs [],.ai,.ai,.ai,i 0,i 4,bs [116],bs [],bs [],bs [],bs [118],i 2,.ai,bs [],i 0,.bool false,i 0,i 0,.int .u64 0,bs [],bs [],i 0,.ai]]
 pre:=[(191,.cells 14 [] (cl ([bs [107],i 2,.bool false,i 0,i 0,.int .u64 0,bs [],bs [118],i 5,.bool true,i 0,i 0,.int .u64 0,bs []])) true false),(481,.cells 8 [] (cl ([i 2,i 1,.int .u64 0,bs [],i 5,i 0,.int .u64 0,bs [53]])) true false),(1107,.cells 8 [] (cl ([i 2,i 2,.int .u64 0,bs [],i 5,i 0,.int .u64 0,bs [55]])) true false),(1113,.cells 4 [] (cl ([bs [2,128,0,0,0,0,0,0,1],.slice 481 0 2 2 false 4,bs [2,128,0,0,0,0,0,0,2],.slice 1107 0 2 2 false 4])) true false),(1120,.cells 4 [] (cl ([bs [116],i 1,.slice 191 0 2 2 false 7,.slice 1113 0 2 2 false 2])) true false)]
 now:=1297
 v:=.tuple [.slice 1913 0 1 1 false 4,.agg [i 0,.ai]]
 post:=[(191,some (.cells 14 [] (cl ([bs [107],i 2,.bool false,i 0,i 0,.int .u64 0,bs [],bs [118],i 5,.bool true,i 0,i 0,.int .u64 0,bs []])) true false)),(481,some (.cells 8 [] (cl ([i 2,i 1,.int .u64 0,bs [],i 5,i 0,.int .u64 0,bs [53]])) true false)),(1107,some (.cells 8 [] (cl ([i 2,i 2,.int .u64 0,bs [],i 5,i 0,.int .u64 0,bs [55]])) true false)),(1113,some (.cells 4 [] (cl ([bs [2,128,0,0,0,0,0,0,1],.slice 481 0 2 2 false 4,bs [2,128,0,0,0,0,0,0,2],.slice 1107 0 2 2 false 4])) true false)),(1120,some (.cells 4 [] (cl ([bs [116],i 1,.slice 191 0 2 2 false 7,.slice 1113 0 2 2 false 2])) true false)),(1589,some (.cells 14 [] (cl ([bs [107],i 2,.bool false,i 0,i 0,.int .u64 0,bs [],bs [118],i 2,.bool true,i 0,i 0,.int .u64 0,bs []])) true false)),(1691,some (.cells 12 [i 0,i 0,.int .u64 0,bs []] (cl ([i 2,i 1,.int .u64 0,bs [],i 2,i 5,.int .u64 0,bs []])) true false)),(1849,some (.cells 12 [i 0,i 0,.int .u64 0,bs []] (cl ([i 2,i 2,.int .u64 0,bs [],i 2,i 7,.int .u64 0,bs []])) true false)),(1906,some (.cells 4 [] (cl ([bs [2,128,0,0,0,0,0,0,1],.slice 1691 0 2 3 true 4,bs [2,128,0,0,0,0,0,0,2],.slice 1849 0 2 3 true 4])) true false)),(1913,some (.cells 4 [] (cl ([bs [116],i 1,.slice 1589 0 2 2 false 7,.slice 1906 0 2 2 false 2])) true false))]
 then':=1914
end Go.Proofs.YtbajncpfmemdgaaGreatDoor.xT
end
section
namespace Go.Proofs.YtbajncpfmemdgaaGreatDoor.xT
open Go.Ev
end Go.Proofs.YtbajncpfmemdgaaGreatDoor.xT
end
section
namespace Go.Proofs.YtbajncpfmemdgaaGreatDoor
open Go Go.Ev Go.IntWalk
section
variable [Env] {vs:List V} {σ:St} {k:ah}
theorem says {P:Program} [Go.Ev.eF P] {f:FuncId} {vs:List V} {σ:St} {O:List Ev.Told} (hO:∀e∈O,e.ok P) (n:Nat) (h:(yM P O n (.call f vs) σ).check wC=true):ag P f vs (fun v _=>v=.bool true) σ:=
 ⟨(cj.D4 (n:=n) hO (bu.l5 h)).mono fun⟨o,τ⟩ hx=>by
   cases o with
   | val v=>
    cases v with
    | bool b=>have hx:b=true:=hx;rw[hx];rfl
    | _=>cases hx
   | exit e a=>cases hx⟩
variable [aE]
omit [Env] [aE] in
theorem Ot.lo {o:nA} (h:Ot o):∀i,i<o.f3.length→yR (loQ o i):=fun i hi=>h.1 _ (bf hi)
omit [Env] [aE] in
theorem Ot.hi {o:nA} (h:Ot o):∀i,i<o.f4.length→yR (hiQ o i):=fun i hi=>h.2 _ (bf hi)
end
end Go.Proofs.YtbajncpfmemdgaaGreatDoor
end
section
namespace Go.Proofs.YtbajncpfmemdgaaGreatDoor
open Go Go.Ev
def lK (a b:Int):Bool:=decide ((1≤a∧a≤5)∧(1≤b∧b≤5)∧¬(a=1∧b=4)∧¬(a=4∧b=1)∧¬(a=3∧b=5)∧¬(a=5∧b=3))
def fR:Nat→Nat→List UInt8
 | 0,m=>[byteOf ((48+m:Nat):Int)]
 | f+1,m=>if m<10 then [byteOf ((48+m:Nat):Int)] else fR f (m/10)++[byteOf ((48+m%10:Nat):Int)]
def ij (n:Int):List UInt8:=(if n<0 then [byteOf 45] else [])++fR 20 n.natAbs
def fg (n:Int):Prop:= -9223372036854775808≤n∧n≤9223372036854775807
def y5 (s:List UInt8):Prop:=∃n,fg n∧ij n=s
noncomputable def lL (s:List UInt8):Int:=@dite _ (y5 s) (Classical.propDecidable _) (fun h=>Classical.choose h) fun _=>0
noncomputable def jY (s:List UInt8):Int:=@ite _ (y5 s) (Classical.propDecidable _) 0 7
def EH:Nat→List Nat:=(fun _=>[])
abbrev J5 [Env] (A:Nat→List SV→Prop) (Q:V→Prop) (a b:Int):Prop:=
 ((.i64:IntKind)=.i64∧ae (decide (a=(3:Int))) (((.i64:IntKind)=.i64∧ae (decide (b=(5:Int))) (Q (.bool false)) (((.i64:IntKind)=.i64∧ae (decide (a=(5:Int))) (((.i64:IntKind)=.i64∧ae (decide (b=(3:Int))) (Q (.bool false)) (Q (.bool true)))) (Q (.bool true)))))) (((.i64:IntKind)=.i64∧ae (decide (a=(5:Int))) (((.i64:IntKind)=.i64∧ae (decide (b=(3:Int))) (Q (.bool false)) (Q (.bool true)))) (Q (.bool true)))))
theorem Zw [Env] (A:Nat→List SV→Prop) (Q:V→Prop) (a b:Int):WE Tryz.prog 253 Tryz.f253 Hv 0 EH A (fun v _=>Q v) [.int .i64 a,.int .i64 b] Go.Ev.start=
  (((.i64:IntKind)=.i64∧ae (decide (a<(1:Int))) (Q (.bool false)) (((.i64:IntKind)=.i64∧ae (decide (a>(5:Int))) (Q (.bool false)) (((.i64:IntKind)=.i64∧ae (decide (b<(1:Int))) (Q (.bool false)) (((.i64:IntKind)=.i64∧ae (decide (b>(5:Int))) (Q (.bool false)) (((.i64:IntKind)=.i64∧ae (decide (a=(1:Int))) (((.i64:IntKind)=.i64∧ae (decide (b=(4:Int))) (Q (.bool false)) (((.i64:IntKind)=.i64∧ae (decide (a=(4:Int))) (((.i64:IntKind)=.i64∧ae (decide (b=(1:Int))) (Q (.bool false)) ((J5 A Q a b)))) ((J5 A Q a b)))))) (((.i64:IntKind)=.i64∧ae (decide (a=(4:Int))) (((.i64:IntKind)=.i64∧ae (decide (b=(1:Int))) (Q (.bool false)) ((J5 A Q a b)))) ((J5 A Q a b)))))))))))))):=by kernel_rfl
def LR [Env] (vs:List V) (σ:St) (k:ah):Prop:=
 match vs with
 | [.int .i64 a,.int .i64 b]=>k (.bool (lK a b)) σ
 | _=>False
def Hw [Env]:=kS 253 LR Hv
def EI:Nat→List Nat:=(fun _=>[])
theorem Zx [Env] (A:Nat→List SV→Prop) (Q:V→St→Prop) (e:Int):WE Tryz.prog 251 Tryz.f251 Hw 0 EI A Q [.int .i64 e] Go.Ev.start=
  (Q (.func (.func 265) [] [.ptr 0 0]) ⟨(St.new Go.Ev.start 0 (.cells 1 [] (an [.int .i64 e] .leaf 0) true false)).heap,1⟩):=by kernel_rfl
def LS [Env] (vs:List V) (σ:St) (k:ah):Prop:=
 match vs with
 | [.int .i64 e]=>k (.func (.func 265) [] [.aK [.int .i64 e] 0]) σ
 | _=>False
def Hz [Env]:=kS 251 LS Hw
def EJ:Nat→List Nat:=(fun _=>[])
theorem Zy [Env] (A:Nat→List SV→Prop) (Q:V→St→Prop) (e:ay):WE Tryz.prog 252 Tryz.f252 Hz 0 EJ A Q [ay.enc e] Go.Ev.start=
  (Q (.func (.func 266) [] [.ptr 0 0]) ⟨(St.new Go.Ev.start 0 (.cells 4 [] (an [.int .i64 e.f0,.int .i64 e.f1,.int .u64 e.f2,.str e.f3] .leaf 0) true false)).heap,1⟩):=by kernel_rfl
def LU [Env] (vs:List V) (σ:St) (k:ah):Prop:=
 match vs with
 | [.agg [.int .i64 a,.int .i64 b,.int .u64 c,.str s]]=>k (.func (.func 266) [] [.aK [.int .i64 a,.int .i64 b,.int .u64 c,.str s] 0]) σ
 | _=>False
def HA [Env]:=kS 252 LU Hz
def EK:Nat→List Nat:=(fun _=>[])
theorem Zz [Env] (A:Nat→List SV→Prop) (Q:V→Prop) (e:Int):WE Tryz.prog 265 Tryz.f265 HA 0 EK A (fun v _=>Q v) [.aK [.int .i64 e] 0] Go.Ev.start=
  (Q (.tuple [.agg [.int .i64 (0:Int),.int .i64 (0:Int),.int .u64 (0:Int),.str ([])],.int .i64 e])):=by kernel_rfl
def LV [Env] (vs:List V) (σ:St) (k:ah):Prop:=
 match vs with
 | [.aK [.int .i64 e] 0]=>k (.tuple [.agg [.int .i64 0,.int .i64 0,.int .u64 0,.str []],.int .i64 e]) σ
 | _=>False
def HB [Env]:=kS 265 LV HA
def EL:Nat→List Nat:=(fun _=>[])
theorem ZA [Env] (A:Nat→List SV→Prop) (Q:V→Prop) (a b c:Int) (s:List UInt8):WE Tryz.prog 266 Tryz.f266 HB 0 EL A (fun v _=>Q v) [.aK [.int .i64 a,.int .i64 b,.int .u64 c,.str s] 0] Go.Ev.start=
  (Q (.tuple [.agg [.int .i64 a,.int .i64 b,.int .u64 c,.str s],.int .i64 (0:Int)])):=by kernel_rfl
def LW [Env] (vs:List V) (σ:St) (k:ah):Prop:=
 match vs with
 | [.aK [.int .i64 a,.int .i64 b,.int .u64 c,.str s] 0]=>k (.tuple [.agg [.int .i64 a,.int .i64 b,.int .u64 c,.str s],.int .i64 0]) σ
 | _=>False
def mg [Env]:=kS 266 LW HB
def ik:Nat→List Nat:=(fun i=>match i with | 0=>[0,3,5] | _=>[])
theorem ZC [Env] (A:Nat→List SV→Prop) (Q:V→Prop) (x:Int):WE Tryz.prog 268 Tryz.f268 mg 0 ik A (fun v _=>Q v) [.int .u64 x] Go.Ev.start=
  (A 0 [.val (.int .u64 x),.box [.int .u8 (0:Int),.int .u8 (0:Int),.int .u8 (0:Int),.int .u8 (0:Int),.int .u8 (0:Int),.int .u8 (0:Int),.int .u8 (0:Int),.int .u8 (0:Int)],.val (.int .i64 (0:Int))]):=by kernel_rfl
theorem Sg [Env] (A:Nat→List SV→Prop) (Q:V→Prop) (x:Int) (c:Nat→Int):WL Tryz.prog 268 Tryz.f268 mg 0 ik A (fun v _=>Q v) 0 [.val (.int .u64 x),.box [.int .u8 (0:Int),.int .u8 (0:Int),.int .u8 (0:Int),.int .u8 (0:Int),.int .u8 (0:Int),.int .u8 (0:Int),.int .u8 (0:Int),.int .u8 (0:Int)],.val (.int .i64 (0:Int))]=
  (((.i64:IntKind)=.i64∧(0≤(56:Int)∧A 0 [.val (.int .u64 x),.box [.int .u8 (IntKind.u8.wrap (x.fdiv (2^min (56:Int).toNat IntKind.u64.bits))),.int .u8 (0:Int),.int .u8 (0:Int),.int .u8 (0:Int),.int .u8 (0:Int),.int .u8 (0:Int),.int .u8 (0:Int),.int .u8 (0:Int)],.val (.int .i64 (1:Int))]))):=by kernel_rfl
theorem Sh [Env] (A:Nat→List SV→Prop) (Q:V→Prop) (x:Int) (c:Nat→Int):WL Tryz.prog 268 Tryz.f268 mg 0 ik A (fun v _=>Q v) 0 [.val (.int .u64 x),.box [.int .u8 (c 0),.int .u8 (0:Int),.int .u8 (0:Int),.int .u8 (0:Int),.int .u8 (0:Int),.int .u8 (0:Int),.int .u8 (0:Int),.int .u8 (0:Int)],.val (.int .i64 (1:Int))]=
  (((.i64:IntKind)=.i64∧(0≤(48:Int)∧A 0 [.val (.int .u64 x),.box [.int .u8 (c 0),.int .u8 (IntKind.u8.wrap (x.fdiv (2^min (48:Int).toNat IntKind.u64.bits))),.int .u8 (0:Int),.int .u8 (0:Int),.int .u8 (0:Int),.int .u8 (0:Int),.int .u8 (0:Int),.int .u8 (0:Int)],.val (.int .i64 (2:Int))]))):=by kernel_rfl
theorem Si [Env] (A:Nat→List SV→Prop) (Q:V→Prop) (x:Int) (c:Nat→Int):WL Tryz.prog 268 Tryz.f268 mg 0 ik A (fun v _=>Q v) 0 [.val (.int .u64 x),.box [.int .u8 (c 0),.int .u8 (c 1),.int .u8 (0:Int),.int .u8 (0:Int),.int .u8 (0:Int),.int .u8 (0:Int),.int .u8 (0:Int),.int .u8 (0:Int)],.val (.int .i64 (2:Int))]=
  (((.i64:IntKind)=.i64∧(0≤(40:Int)∧A 0 [.val (.int .u64 x),.box [.int .u8 (c 0),.int .u8 (c 1),.int .u8 (IntKind.u8.wrap (x.fdiv (2^min (40:Int).toNat IntKind.u64.bits))),.int .u8 (0:Int),.int .u8 (0:Int),.int .u8 (0:Int),.int .u8 (0:Int),.int .u8 (0:Int)],.val (.int .i64 (3:Int))]))):=by kernel_rfl
theorem Sj [Env] (A:Nat→List SV→Prop) (Q:V→Prop) (x:Int) (c:Nat→Int):WL Tryz.prog 268 Tryz.f268 mg 0 ik A (fun v _=>Q v) 0 [.val (.int .u64 x),.box [.int .u8 (c 0),.int .u8 (c 1),.int .u8 (c 2),.int .u8 (0:Int),.int .u8 (0:Int),.int .u8 (0:Int),.int .u8 (0:Int),.int .u8 (0:Int)],.val (.int .i64 (3:Int))]=
  (((.i64:IntKind)=.i64∧(0≤(32:Int)∧A 0 [.val (.int .u64 x),.box [.int .u8 (c 0),.int .u8 (c 1),.int .u8 (c 2),.int .u8 (IntKind.u8.wrap (x.fdiv (2^min (32:Int).toNat IntKind.u64.bits))),.int .u8 (0:Int),.int .u8 (0:Int),.int .u8 (0:Int),.int .u8 (0:Int)],.val (.int .i64 (4:Int))]))):=by kernel_rfl
theorem Sk [Env] (A:Nat→List SV→Prop) (Q:V→Prop) (x:Int) (c:Nat→Int):WL Tryz.prog 268 Tryz.f268 mg 0 ik A (fun v _=>Q v) 0 [.val (.int .u64 x),.box [.int .u8 (c 0),.int .u8 (c 1),.int .u8 (c 2),.int .u8 (c 3),.int .u8 (0:Int),.int .u8 (0:Int),.int .u8 (0:Int),.int .u8 (0:Int)],.val (.int .i64 (4:Int))]=
  (((.i64:IntKind)=.i64∧(0≤(24:Int)∧A 0 [.val (.int .u64 x),.box [.int .u8 (c 0),.int .u8 (c 1),.int .u8 (c 2),.int .u8 (c 3),.int .u8 (IntKind.u8.wrap (x.fdiv (2^min (24:Int).toNat IntKind.u64.bits))),.int .u8 (0:Int),.int .u8 (0:Int),.int .u8 (0:Int)],.val (.int .i64 (5:Int))]))):=by kernel_rfl
theorem Sl [Env] (A:Nat→List SV→Prop) (Q:V→Prop) (x:Int) (c:Nat→Int):WL Tryz.prog 268 Tryz.f268 mg 0 ik A (fun v _=>Q v) 0 [.val (.int .u64 x),.box [.int .u8 (c 0),.int .u8 (c 1),.int .u8 (c 2),.int .u8 (c 3),.int .u8 (c 4),.int .u8 (0:Int),.int .u8 (0:Int),.int .u8 (0:Int)],.val (.int .i64 (5:Int))]=
  (((.i64:IntKind)=.i64∧(0≤(16:Int)∧A 0 [.val (.int .u64 x),.box [.int .u8 (c 0),.int .u8 (c 1),.int .u8 (c 2),.int .u8 (c 3),.int .u8 (c 4),.int .u8 (IntKind.u8.wrap (x.fdiv (2^min (16:Int).toNat IntKind.u64.bits))),.int .u8 (0:Int),.int .u8 (0:Int)],.val (.int .i64 (6:Int))]))):=by kernel_rfl
theorem Sm [Env] (A:Nat→List SV→Prop) (Q:V→Prop) (x:Int) (c:Nat→Int):WL Tryz.prog 268 Tryz.f268 mg 0 ik A (fun v _=>Q v) 0 [.val (.int .u64 x),.box [.int .u8 (c 0),.int .u8 (c 1),.int .u8 (c 2),.int .u8 (c 3),.int .u8 (c 4),.int .u8 (c 5),.int .u8 (0:Int),.int .u8 (0:Int)],.val (.int .i64 (6:Int))]=
  (((.i64:IntKind)=.i64∧(0≤(8:Int)∧A 0 [.val (.int .u64 x),.box [.int .u8 (c 0),.int .u8 (c 1),.int .u8 (c 2),.int .u8 (c 3),.int .u8 (c 4),.int .u8 (c 5),.int .u8 (IntKind.u8.wrap (x.fdiv (2^min (8:Int).toNat IntKind.u64.bits))),.int .u8 (0:Int)],.val (.int .i64 (7:Int))]))):=by kernel_rfl
theorem Sn [Env] (A:Nat→List SV→Prop) (Q:V→Prop) (x:Int) (c:Nat→Int):WL Tryz.prog 268 Tryz.f268 mg 0 ik A (fun v _=>Q v) 0 [.val (.int .u64 x),.box [.int .u8 (c 0),.int .u8 (c 1),.int .u8 (c 2),.int .u8 (c 3),.int .u8 (c 4),.int .u8 (c 5),.int .u8 (c 6),.int .u8 (0:Int)],.val (.int .i64 (7:Int))]=
  (((.i64:IntKind)=.i64∧(0≤(0:Int)∧A 0 [.val (.int .u64 x),.box [.int .u8 (c 0),.int .u8 (c 1),.int .u8 (c 2),.int .u8 (c 3),.int .u8 (c 4),.int .u8 (c 5),.int .u8 (c 6),.int .u8 (IntKind.u8.wrap (x.fdiv (2^min (0:Int).toNat IntKind.u64.bits)))],.val (.int .i64 (8:Int))]))):=by kernel_rfl
theorem Sp [Env] (A:Nat→List SV→Prop) (Q:V→Prop) (x:Int) (c:Nat→Int):WL Tryz.prog 268 Tryz.f268 mg 0 ik A (fun v _=>Q v) 0 [.val (.int .u64 x),.box [.int .u8 (c 0),.int .u8 (c 1),.int .u8 (c 2),.int .u8 (c 3),.int .u8 (c 4),.int .u8 (c 5),.int .u8 (c 6),.int .u8 (c 7)],.val (.int .i64 (8:Int))]=
  (((.i64:IntKind)=.i64∧Q (.str ([UInt8.ofNat (c 0).toNat,UInt8.ofNat (c 1).toNat,UInt8.ofNat (c 2).toNat,UInt8.ofNat (c 3).toNat,UInt8.ofNat (c 4).toNat,UInt8.ofNat (c 5).toNat,UInt8.ofNat (c 6).toNat,UInt8.ofNat (c 7).toNat])))):=by kernel_rfl
def LX [Env] (vs:List V) (σ:St) (k:ah):Prop:=
 match vs with
 | [.int .u64 x]=>k (.str (qN x 8)) σ
 | _=>False
def y6 [Env]:=kS 268 LX mg
end Go.Proofs.YtbajncpfmemdgaaGreatDoor
end
section
namespace Go.Proofs.YtbajncpfmemdgaaGreatDoor
open Go Go.Ev
def lc (c:Nat→Int) (i:Nat):List UInt8:=((List.range 20).drop i).map fun j=>UInt8.ofNat (c j).toNat
def put (c:Nat→Int) (i:Nat) (x:Int):Nat→Int:=fun j=>if j=i then x else c j
def zf (i:Nat) (c:Nat→Int) (j:Nat):Int:=bif Nat.blt j i then 0 else c j
def y7 (n m:Int) (c:Nat→Int) (i:Nat):List SV:=[.val (.int .i64 n),.val (.int .u64 m),.box ((List.range 20).map fun j=>.int .u8 (zf i c j)),.val (.int .i64 ((i:Nat):Int))]
def Sq (A:Nat→List SV→Prop) (n m:Int) (c:Nat→Int) (i:Nat):Prop:=
 ((.u64:IntKind)=.u64∧(10:Int)≠0)∧(((.u64:IntKind)=.u64∧(10:Int)≠0)∧A 0 (y7 n (IntKind.u64.wrap (m.tdiv 10)) (put c i (IntKind.u8.wrap (IntKind.u64.wrap (48+m.tmod 10)))) i))
def ZD (A:Nat→List SV→Prop) (Q:V→Prop) (n m:Int) (c:Nat→Int) (i:Nat):Prop:=
 (.i64:IntKind)=.i64∧((.u64:IntKind)=.u64∧ae (decide (m>0)) (Sq A n m c (i-1)) ((.i64:IntKind)=.i64∧ae (decide (n<0)) (Q (.str (UInt8.ofNat (45:Int).toNat::lc c i))) (Q (.str (lc c i)))))
def vf:Nat→List Nat:=(fun i=>match i with | 0=>[0,3,4,5] | _=>[])
theorem ZE [Env] (A:Nat→List SV→Prop) (Q:V→Prop) (n:Int):WE Tryz.prog 269 Tryz.f269 y6 0 vf A (fun v _=>Q v) [.int .i64 n] Go.Ev.start=
  (((.i64:IntKind)=.i64∧ae (decide (n<(0:Int))) (A 0 [.val (.int .i64 n),.val (.int .u64 (IntKind.u64.wrap ((0:Int)-(IntKind.u64.wrap n)))),.box [.int .u8 (0:Int),.int .u8 (0:Int),.int .u8 (0:Int),.int .u8 (0:Int),.int .u8 (0:Int),.int .u8 (0:Int),.int .u8 (0:Int),.int .u8 (0:Int),.int .u8 (0:Int),.int .u8 (0:Int),.int .u8 (0:Int),.int .u8 (0:Int),.int .u8 (0:Int),.int .u8 (0:Int),.int .u8 (0:Int),.int .u8 (0:Int),.int .u8 (0:Int),.int .u8 (0:Int),.int .u8 (0:Int),.int .u8 (0:Int)],.val (.int .i64 (20:Int))]) (A 0 [.val (.int .i64 n),.val (.int .u64 (IntKind.u64.wrap n)),.box [.int .u8 (0:Int),.int .u8 (0:Int),.int .u8 (0:Int),.int .u8 (0:Int),.int .u8 (0:Int),.int .u8 (0:Int),.int .u8 (0:Int),.int .u8 (0:Int),.int .u8 (0:Int),.int .u8 (0:Int),.int .u8 (0:Int),.int .u8 (0:Int),.int .u8 (0:Int),.int .u8 (0:Int),.int .u8 (0:Int),.int .u8 (0:Int),.int .u8 (0:Int),.int .u8 (0:Int),.int .u8 (0:Int),.int .u8 (0:Int)],.val (.int .i64 (20:Int))]))):=by kernel_rfl
theorem ZF [Env] (A:Nat→List SV→Prop) (Q:V→Prop) (n m:Int) (c:Nat→Int):∀i:Nat,1≤i→i<20→WL Tryz.prog 269 Tryz.f269 y6 0 vf A (fun v _=>Q v) 0 (y7 n m c i)=ZD A Q n m c i
 | 0,h,_=>absurd h (by decide)
 | 1,_,_=>by kernel_rfl
 | 2,_,_=>by kernel_rfl
 | 3,_,_=>by kernel_rfl
 | 4,_,_=>by kernel_rfl
 | 5,_,_=>by kernel_rfl
 | 6,_,_=>by kernel_rfl
 | 7,_,_=>by kernel_rfl
 | 8,_,_=>by kernel_rfl
 | 9,_,_=>by kernel_rfl
 | 10,_,_=>by kernel_rfl
 | 11,_,_=>by kernel_rfl
 | 12,_,_=>by kernel_rfl
 | 13,_,_=>by kernel_rfl
 | 14,_,_=>by kernel_rfl
 | 15,_,_=>by kernel_rfl
 | 16,_,_=>by kernel_rfl
 | 17,_,_=>by kernel_rfl
 | 18,_,_=>by kernel_rfl
 | 19,_,_=>by kernel_rfl
 | _+20,_,h=>absurd h (by omega)
theorem Pu [Env] (A:Nat→List SV→Prop) (Q:V→Prop) (n m:Int) (c:Nat→Int):WL Tryz.prog 269 Tryz.f269 y6 0 vf A (fun v _=>Q v) 0 (y7 n m c 20)=((.i64:IntKind)=.i64∧Sq A n m c 19):=by kernel_rfl
def LY [Env] (vs:List V) (σ:St) (k:ah):Prop:=
 match vs with
 | [.int .i64 n]=>fg n∧k (.str (ij n)) σ
 | _=>False
def Cd [Env]:=kS 269 LY y6
end Go.Proofs.YtbajncpfmemdgaaGreatDoor
end
section
namespace Go.Proofs.YtbajncpfmemdgaaGreatDoor
open Go Go.Ev
def y8:Nat→List Nat:=(fun i=>match i with | 0=>[0,4,5,23,24,25] | _=>[])
abbrev Sr [Env] (A:Nat→List SV→Prop) (Q:V→Prop) (s:List UInt8):Prop:=
 ((.i64:IntKind)=.i64∧ae (decide ((((len s:Nat):Int))≥(20:Int))) (Q (.tuple [.int .i64 (0:Int),.int .i64 (7:Int)])) ((len s≤1099511627776∧(((len s)=(len s)∧1=1)∧A 0 [.val (.str s),.val (.str s),.val (.int .u64 (0:Int)),.row (len s) (du s) 1,.val (.int .i64 (((len s:Nat):Int))),.val (.int .i64 (0:Int))]))))
theorem ZG [Env] (A:Nat→List SV→Prop) (Q:V→Prop) (s:List UInt8):WE Tryz.prog 271 Tryz.f271 Cd 0 y8 A (fun v _=>Q v) [.str s] Go.Ev.start=
  (ae (decide (s≠[])) (((0≤(0:Int)∧(0:Int)<((len s:Nat):Int))∧((.u8:IntKind)=.u8∧ae (decide ((iW s (0:Int))=(45:Int))) (((0≤(1:Int)∧(1:Int)≤((len s:Nat):Int)∧((len s:Nat):Int)≤((len s:Nat):Int))∧((.i64:IntKind)=.i64∧ae (decide ((((len (di (1:Int).toNat (dA s ((len s:Nat):Int).toNat)):Nat):Int))≥(20:Int))) (Q (.tuple [.int .i64 (0:Int),.int .i64 (7:Int)])) ((len (di (1:Int).toNat (dA s ((len s:Nat):Int).toNat))≤1099511627776∧(((len (di (1:Int).toNat (dA s ((len s:Nat):Int).toNat)))=(len (di (1:Int).toNat (dA s ((len s:Nat):Int).toNat)))∧1=1)∧A 0 [.val (.str s),.val (.str (di (1:Int).toNat (dA s ((len s:Nat):Int).toNat))),.val (.int .u64 (0:Int)),.row (len (di (1:Int).toNat (dA s ((len s:Nat):Int).toNat))) (du (di (1:Int).toNat (dA s ((len s:Nat):Int).toNat))) 1,.val (.int .i64 (((len (di (1:Int).toNat (dA s ((len s:Nat):Int).toNat)):Nat):Int))),.val (.int .i64 (0:Int))])))))) ((Sr A Q s))))) ((Sr A Q s))):=by kernel_rfl
theorem ZH [Env] (A:Nat→List SV→Prop) (Q:V→Prop) (s t:List UInt8) (m n i:Int):WL Tryz.prog 271 Tryz.f271 Cd 0 y8 A (fun v _=>Q v) 0 [.val (.str s),.val (.str t),.val (.int .u64 m),.row (len t) (du t) 1,.val (.int .i64 n),.val (.int .i64 i)]=
  (((.i64:IntKind)=.i64∧ae (decide (i<n)) (((0≤i∧i<((len t:Nat):Int))∧(i.toNat<len t∧((.u8:IntKind)=.u8∧ae (decide ((aI t i.toNat)<(48:Int))) (Q (.tuple [.int .i64 (0:Int),.int .i64 (7:Int)])) (((.u8:IntKind)=.u8∧ae (decide ((aI t i.toNat)>(57:Int))) (Q (.tuple [.int .i64 (0:Int),.int .i64 (7:Int)])) ((((len t)=(len t)∧1=1)∧A 0 [.val (.str s),.val (.str t),.val (.int .u64 (IntKind.u64.wrap ((IntKind.u64.wrap (m*(10:Int)))+(IntKind.u64.wrap (IntKind.u8.wrap ((aI t i.toNat)-(48:Int))))))),.row (len t) (du t) 1,.val (.int .i64 n),.val (.int .i64 (IntKind.i64.wrap (i+(1:Int))))])))))))) (((.i64:IntKind)=.i64∧ae (decide ((((len t:Nat):Int))<(((len s:Nat):Int)))) ((fg (IntKind.i64.wrap (IntKind.u64.wrap ((0:Int)-m)))∧ae (decide (ij (IntKind.i64.wrap (IntKind.u64.wrap ((0:Int)-m)))≠s)) (Q (.tuple [.int .i64 (0:Int),.int .i64 (7:Int)])) (Q (.tuple [.int .i64 (IntKind.i64.wrap (IntKind.u64.wrap ((0:Int)-m))),.int .i64 (0:Int)])))) ((fg (IntKind.i64.wrap m)∧ae (decide (ij (IntKind.i64.wrap m)≠s)) (Q (.tuple [.int .i64 (0:Int),.int .i64 (7:Int)])) (Q (.tuple [.int .i64 (IntKind.i64.wrap m),.int .i64 (0:Int)])))))))):=by kernel_rfl
def LZ [Env] (vs:List V) (σ:St) (k:ah):Prop:=
 match vs with
 | [.str s]=>k (.tuple [.int .i64 (lL s),.int .i64 (jY s)]) σ
 | _=>False
def HC [Env]:=kS 271 LZ Cd
end Go.Proofs.YtbajncpfmemdgaaGreatDoor
end
