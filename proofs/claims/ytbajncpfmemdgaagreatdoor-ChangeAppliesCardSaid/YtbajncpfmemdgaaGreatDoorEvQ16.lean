/- Proved: parts of the way: BP8, BP9, BP10, BEq4, BEq5, BEq6, BP11, BP12, BP13, BP14, BEq7, BEq8, BP15, Awk13T0, Awk13T1, Awk13Run, BP16, BEq9, BEq10. -/
import Derived.Test.YtbajncpfmemdgaaGreatDoorEvQ15
import Derived.Test.YtbajncpfmemdgaaGreatDoorEvQ14
import Derived.Test.YtbajncpfmemdgaaGreatDoorProg
import Derived.Test.YtbajncpfmemdgaaGreatDoorEvQ10
import Derived.ProofKit
set_option linter.unusedVariables false
set_option linter.unusedSimpArgs false
section
namespace Go.Proofs.YtbajncpfmemdgaaGreatDoor
open Go Go.Ev Go.IntWalk
theorem F179:bc Tryz.prog 179 Tryz.f179:=.of (by kernel_rfl) (by kernel_rfl)
theorem F109:bc Tryz.prog 109 Tryz.f109:=.of (by kernel_rfl) (by kernel_rfl)
theorem F181:bc Tryz.prog 181 Tryz.f181:=.of (by kernel_rfl) (by kernel_rfl)
theorem F223:bc Tryz.prog 223 Tryz.f223:=.of (by kernel_rfl) (by kernel_rfl)
theorem F180:bc Tryz.prog 180 Tryz.f180:=.of (by kernel_rfl) (by kernel_rfl)
theorem F177:bc Tryz.prog 177 Tryz.f177:=.of (by kernel_rfl) (by kernel_rfl)
theorem F107:bc Tryz.prog 107 Tryz.f107:=.of (by kernel_rfl) (by kernel_rfl)
theorem F134:bc Tryz.prog 134 Tryz.f134:=.of (by kernel_rfl) (by kernel_rfl)
theorem F81:bc Tryz.prog 81 Tryz.f81:=.of (by kernel_rfl) (by kernel_rfl)
theorem F57:bc Tryz.prog 57 Tryz.f57:=.of (by kernel_rfl) (by kernel_rfl)
section
theorem wz (f:Nat→V) (i:Nat) (v:V):eV f i v i=v:=by
 show(Bool.rec (f i) v (Nat.beq i i):V)=v
 rw[Nat.beq_refl]
theorem wA (f:Nat→V) {i j:Nat} (v:V) (h:j≠i):eV f i v j=f j:=by
 show(Bool.rec (f j) v (Nat.beq j i):V)=f j
 have:Nat.beq j i=false:=by
  cases hb:Nat.beq j i with
  | false=>rfl
  | true=>exact absurd (Nat.eq_of_beq_eq_true hb) h
 rw[this]
theorem Ax {n j:Nat} (f g:Nat→V) (h:j<n):cw n f g j=f j:=by
 show(Bool.rec (g (Nat.sub j n)) (f j) (Nat.blt j n):V)=f j
 have:Nat.blt j n=true:=Nat.ble_eq_true_of_le h
 rw[this]
theorem Ay (n:Nat) (f g:Nat→V):cw n f g n=g 0:=by
 show(Bool.rec (g (Nat.sub n n)) (f n) (Nat.blt n n):V)=g 0
 have:Nat.blt n n=false:=by
  cases hb:Nat.blt n n with
  | false=>rfl
  | true=>exact absurd (Nat.le_of_ble_eq_true hb) (Nat.not_succ_le_self n)
 rw[this]
 exact congrArg g (Nat.sub_self n)
variable [Env] {vs:List V} {σ:St} {k:ai}
theorem rI (n:Nat) (q:Nat→ak):Go.Ev.Clean (V.arr n (fun i=>ak.enc (q i)) 7 false false):=
 Go.Ev.Clean.arr fun i _ u hu=>(q i).clean u hu
theorem wB {n:Nat} {q:Nat→ak} {l:List SV} (hl:∀u∈l,u.clean):∀u∈SV.val (V.arr n (fun i=>ak.enc (q i)) 7 false false)::l,u.clean:=ax (rI n q) hl
theorem NW {n:Nat} {f:Nat→V} {l:List SV} (h:∀i,i<n→∃t,(f i).cells=[V.str t]) (hl:∀u∈l,u.clean):∀u∈SV.row n f 1::l,u.clean:=ax (fun i hi u hu=>by
 obtain⟨t,ht⟩:=h i hi
 rw[ht,List.mem_singleton] at hu
 subst hu;exact Go.Ev.Clean.str _) hl
theorem Es {n:Nat} {f:Nat→V} {q:Nat→ak} {b:Nat} {τ:St} {p:Bool} (hb:τ.heap.get b=some (.row n f 1 p)) (h:∀i,i<n→(f i).cells=[V.str (q i).f0]):ei τ (.own b n 1) (.arr n (fun i=>V.str (q i).f0) 1 false false):=
 .own hb (fun i hi=>by rw[h i hi];exact .cons (.str _) .nil) fun _ _=>rfl
def agc (n:Nat) (q:Nat→ak):Nat→List SV→Prop
 | 0,ss=>∃(i:Nat) (f:Nat→V),i≤n∧(∀j,j<n→∃t,(f j).cells=[V.str t])∧(∀j,j<i→(f j).cells=[V.str (q j).f0])∧ss=[.row n f 1,.val (V.arr n (fun i=>ak.enc (q i)) 7 false false),.val (.int .i64 ((n:Nat):Int)),.val (.int .i64 i)]
 | _,_=>False
theorem UO (h:P1 vs σ k):ag Tryz.prog 179 vs k σ:=by
 unfold P1 at h
 split at h
 ·rename_i n f
  obtain⟨q,rfl,hn,h⟩:=h
  refine(ag.y4 (Q:=fun u=>u=.arr n (fun i=>V.str (q i).f0) 1 false false) (aI (rI n q) cM) ?_).mono fun v τ ⟨h1,h2⟩=>by subst h1;subst h2;exact h
  refine F179.bV (live:=An) (call:=En) (n₀:=0) (σ:=Go.Ev.start) (fun h=>HO h) rfl 1 (by kernel_rfl) Nat.lt_wfRel.wf (fun _ ss=>n-bF ss) (agc n q) ?_ ?_ ?_
  ·intro k ss hI
   cases k with
   | zero=>obtain⟨i,f,_,hf,_,rfl⟩:=hI;exact NW hf (wB (ay (ay bg)))
   | succ k=>exact hI.elim
  ·rw[afN]
   simp only[Int.toNat_natCast]
   exact⟨⟨by omega,by omega,by omega,by omega⟩,⟨Nat.le_refl _,trivial⟩,0,_,by omega,fun j _=>⟨[],rfl⟩,fun j hj=>absurd hj (Nat.not_lt_zero j),rfl⟩
  ·intro k hk ss hI
   obtain rfl:k=0:=by omega
   obtain⟨i,f,hi,hf,hj,rfl⟩:=hI
   rw[afO]
   refine⟨rfl,aq (fun h1=>⟨⟨by omega,by omega⟩,⟨by omega,by omega⟩,by rw[cA];omega,⟨rfl,rfl⟩,?_⟩) fun h1=>?_⟩
   ·rw[cA,i64_in ((i:Int)+1) (by omega)]
    refine⟨⟨i+1,_,by omega,fun j Ts=>?_,fun j gK=>?_,rfl⟩,?_⟩
    ·by_cases e:j=i
     ·subst e;exact⟨_,by rw[wz];rfl⟩
     ·rw[wA _ _ e];exact hf j Ts
    ·by_cases e:j=i
     ·subst e;rw[wz];rfl
     ·rw[wA _ _ e];exact hj j (by omega)
    ·show n-((i:Int)+1).toNat<n-(i:Int).toNat
     omega
   ·obtain rfl:i=n:=by omega
    refine⟨_,Es (p:=false) ?_ hj,rfl⟩
    show(St.new Go.Ev.start 0 (.row i f 1 false)).heap.get 0=_
    rw[ia,if_pos rfl]
 ·exact h.elim
theorem HP:∀ {f:FuncId} {vs:List V} {σ:St} {k:ai},Ao f vs σ k→ag Tryz.prog f vs k σ:=fun h=>aD UO HO h
def agd (n:Nat) (q:Nat→ak):Nat→List SV→Prop
 | 0,ss=>(ss=[.val (V.arr n (fun i=>ak.enc (q i)) 7 false false),.val .aj,.val (.int .i64 (0:Int))])∨
   ∃(i:Nat) (f:Nat→V),0<i∧i≤n∧(∀j,j<i→(f j).cells=[V.str (q j).f0])∧ss=[.val (V.arr n (fun i=>ak.enc (q i)) 7 false false),.row i f 1,.val (.int .i64 i)]
 | _,_=>False
theorem UP (h:P2 vs σ k):ag Tryz.prog 109 vs k σ:=by
 unfold P2 at h
 split at h
 ·rename_i n f
  obtain⟨q,rfl,hn,h⟩:=h
  refine(ag.y4 (Q:=fun u=>u=.arr n (fun i=>V.str (q i).f0) 1 false false) (aI (rI n q) cM) ?_).mono fun v τ ⟨h1,h2⟩=>by subst h1;subst h2;exact h
  refine F109.bV (live:=wx) (call:=Ao) (n₀:=0) (σ:=Go.Ev.start) (fun h=>HP h) rfl 1 (by kernel_rfl) Nat.lt_wfRel.wf (fun _ ss=>n-bF ss) (agd n q) ?_ ?_ ?_
  ·intro k ss hI
   cases k with
   | zero=>
    rcases hI with rfl | ⟨i,f,_,_,hf,rfl⟩
    ·exact wB (ax Go.Ev.Clean.aj (ay bg))
    ·exact wB (NW (fun j hj=>⟨_,hf j hj⟩) (ay bg))
   | succ k=>exact hI.elim
  ·rw[afP]
   exact .inl rfl
  ·intro k hk ss hI
   obtain rfl:k=0:=by omega
   rcases hI with rfl | ⟨i,f,h0,hi,hf,rfl⟩
   ·rw[ab6]
    refine⟨rfl,aq (fun h1=>⟨⟨by omega,by omega⟩,⟨rfl,rfl,rfl⟩,?_⟩) fun h1=>?_⟩
    ·rw[show(0:Int).toNat=0 from rfl,i64_in ((0:Int)+1) (by omega)]
     refine⟨.inr ⟨1,_,by omega,by omega,fun j hj=>?_,rfl⟩,?_⟩
     ·obtain rfl:j=0:=by omega
      rfl
     ·show n-((0:Int)+1).toNat<n-(0:Int).toNat
      omega
    ·obtain rfl:n=0:=by omega
     exact⟨_,.jT (.empty _ _),rfl⟩
   ·rw[ab7]
    refine⟨rfl,aq (fun h1=>⟨⟨by omega,by omega⟩,⟨rfl,by omega⟩,⟨rfl,rfl⟩,?_⟩) fun h1=>?_⟩
    ·rw[cA,i64_in ((i:Int)+1) (by omega)]
     refine⟨.inr ⟨i+1,_,by omega,by omega,fun j hj=>?_,rfl⟩,?_⟩
     ·by_cases e:j=i
      ·subst e;rw[Ay];rfl
      ·rw[Ax _ _ (by omega)];exact hf j (by omega)
     ·show n-((i:Int)+1).toNat<n-(i:Int).toNat
      omega
    ·obtain rfl:i=n:=by omega
     refine⟨_,Es (p:=false) ?_ hf,rfl⟩
     show(St.new Go.Ev.start 0 (.row i f 1 false)).heap.get 0=_
     rw[ia,if_pos rfl]
 ·exact h.elim
theorem HQ:∀ {f:FuncId} {vs:List V} {σ:St} {k:ai},K3 f vs σ k→ag Tryz.prog f vs k σ:=fun h=>aD UP HP h
theorem UQ (h:P3 vs σ k):ag Tryz.prog 181 vs k σ:=by
 unfold P3 at h
 obtain⟨⟨e,rfl⟩,h⟩:=h
 have h:k (.bool e.f2) σ:=h
 refine ag.cb (ar e.aE aG) (.bool _) (F181.flat (live:=Hr) (call:=K3) (n₀:=0) (σ:=Go.Ev.start) (fun h=>HQ h) rfl (by kernel_rfl) ?_) h
 rw[afQ]
theorem HR:∀ {f:FuncId} {vs:List V} {σ:St} {k:ai},Eo f vs σ k→ag Tryz.prog f vs k σ:=fun h=>aD UQ HQ h
omit [Env] in
theorem kX (q:Nat→ak):∀n,eP q n=true↔∃i,i<n∧(q i).f2=true
 | 0=>⟨fun h=>(by cases h),fun⟨i,hi,_⟩=>absurd hi (Nat.not_lt_zero i)⟩
 | n+1=>by
  show(eP q n||(q n).f2)=true↔_
  rw[Bool.or_eq_true,kX q n]
  constructor
  ·rintro(⟨i,hi,e⟩ | e)
   ·exact⟨i,by omega,e⟩
   ·exact⟨n,by omega,e⟩
  ·rintro⟨i,hi,e⟩
   by_cases cW:i=n
   ·subst cW;exact .inr e
   ·exact .inl ⟨i,by omega,e⟩
def age (n:Nat) (q:Nat→ak):Nat→List SV→Prop
 | 0,ss=>∃i:Nat,i≤n∧(∀j,j<i→(q j).f2=false)∧ss=[.val (V.arr n (fun i=>ak.enc (q i)) 7 false false),.val (.func (.func 181) [] []),.val (.int .i64 ((n:Nat):Int)),.val (.int .i64 i)]
 | _,_=>False
def agf (n:Nat) (q:Nat→ak) (v:V):Prop:=∃c:Int,(0≤c↔eP q n=true)∧v=.int .i64 c
theorem UR (h:P4 vs σ k):ag Tryz.prog 223 vs k σ:=by
 unfold P4 at h
 split at h
 ·rename_i n f
  obtain⟨q,rfl,hn,h⟩:=h
  refine ag.aU (A:=agf n q) (ar (rI n q) (ar (Go.Ev.Clean.func 181) aG)) (fun v hv=>by obtain⟨c,_,rfl⟩:=hv;exact .int _ _)
   (F223.bV (live:=Ap) (call:=Eo) (n₀:=0) (σ:=Go.Ev.start) (fun h=>HR h) rfl 1 (by kernel_rfl) Nat.lt_wfRel.wf (fun _ ss=>n-bF ss) (age n q) ?_ ?_ ?_) fun v hv=>by obtain⟨c,hc,rfl⟩:=hv;exact h c hc
  ·intro k ss hI
   cases k with
   | zero=>obtain⟨i,_,_,rfl⟩:=hI;exact wB (ax (Go.Ev.Clean.func 181) (ay (ay bg)))
   | succ k=>exact hI.elim
  ·rw[afR]
   exact⟨0,by omega,fun j hj=>absurd hj (Nat.not_lt_zero j),rfl⟩
  ·intro k hk ss hI
   obtain rfl:k=0:=by omega
   obtain⟨i,hi,hj,rfl⟩:=hI
   rw[afS]
   refine⟨rfl,aq (fun h1=>⟨⟨by omega,by omega⟩,⟨_,rfl⟩,aa.mk (fun h2=>?_) fun h2=>?_⟩) fun h1=>?_⟩
   ·rw[cA] at h2
    exact⟨i,⟨fun _=>(kX q n).2 ⟨i,by omega,h2⟩,fun _=>by omega⟩,rfl⟩
   ·rw[cA] at h2
    rw[i64_in ((i:Int)+1) (by omega)]
    refine⟨⟨i+1,by omega,fun j gK=>?_,rfl⟩,?_⟩
    ·by_cases e:j=i
     ·subst e;exact h2
     ·exact hj j (by omega)
    ·show n-((i:Int)+1).toNat<n-(i:Int).toNat
     omega
   ·obtain rfl:i=n:=by omega
    refine⟨-1,⟨fun h=>by omega,fun h=>?_⟩,rfl⟩
    obtain⟨j,Ts,e⟩:=(kX q i).1 h
    rw[hj j Ts] at e;cases e
 ·exact h.elim
theorem HS:∀ {f:FuncId} {vs:List V} {σ:St} {k:ai},K4 f vs σ k→ag Tryz.prog f vs k σ:=fun h=>aD UR HR h
theorem US (h:P5 vs σ k):ag Tryz.prog 180 vs k σ:=by
 unfold P5 at h
 split at h
 ·rename_i n f
  obtain⟨q,rfl,hn,h⟩:=h
  refine ag.cb (ar (rI n q) (ar (Go.Ev.Clean.func 181) aG)) (.bool _) (F180.flat (live:=Hs) (call:=K4) (n₀:=0) (σ:=Go.Ev.start) (fun h=>HS h) rfl (by kernel_rfl) ?_) h
  rw[afT]
  refine⟨q,rfl,hn,fun c hc=>⟨rfl,aq (fun h1=>?_) fun h1=>?_⟩⟩
  ·rw[hc.1 h1]
  ·have:eP q n=false:=by
    cases hb:eP q n with
    | false=>rfl
    | true=>exact absurd (hc.2 hb) h1
   rw[this]
 ·exact h.elim
theorem HT:∀ {f:FuncId} {vs:List V} {σ:St} {k:ai},K5 f vs σ k→ag Tryz.prog f vs k σ:=fun h=>aD US HS h
end
end Go.Proofs.YtbajncpfmemdgaaGreatDoor
end
section
namespace Go.Proofs.YtbajncpfmemdgaaGreatDoor
open Go Go.Ev Go.IntWalk
section
theorem cu (f:Nat→Int):∀n,dy f n=0↔∀i,i<n→f i=0
 | 0=>⟨fun _ i hi=>absurd hi (Nat.not_lt_zero i),fun _=>rfl⟩
 | n+1=>by
  show(if dy f n≠0 then dy f n else f n)=0↔_
  have ih:=cu f n
  by_cases h:dy f n=0
  ·rw[if_neg (by rw[h];exact fun h=>h rfl)]
   constructor
   ·intro e i hi
    by_cases cW:i=n
    ·rw[cW];exact e
    ·exact ih.1 h i (by omega)
   ·exact fun hh=>hh n (by omega)
  ·rw[if_pos h]
   exact⟨fun e=>absurd e h,fun hh=>absurd (ih.2 fun i hi=>hh i (by omega)) h⟩
theorem jg (f:Nat→Int):∀n i,i<n→f i≠0→(∀j,j<i→f j=0)→dy f n=f i
 | 0,i,hi,_,_=>absurd hi (Nat.not_lt_zero i)
 | n+1,i,hi,bN,hl=>by
  show(if dy f n≠0 then dy f n else f n)=f i
  by_cases e:i=n
  ·subst e
   rw[if_neg (by rw[(cu f i).2 hl];exact fun h=>h rfl)]
  ·have:=jg f n i (by omega) bN hl
   rw[this,if_pos bN]
theorem bm {α:Type} [Inhabited α] {l:List α} {i:Nat} (h:i<l.length):l.getD i default∈l:=by
 rw[List.getD_eq_getElem?_getD,List.getElem?_eq_getElem h]
 exact List.getElem_mem h
variable [Env] {vs:List V} {σ:St} {k:ai}
theorem XW (e:ae):Go.Ev.Clean (af ak.enc 7 e.f2):=e.clean _ (List.mem_cons_of_mem _ (List.mem_cons_of_mem _ List.mem_cons_self))
theorem Et (e:ae) {l:List SV} (hl:∀u∈l,u.clean):∀u∈SV.box [.str e.f0,.int .i64 e.f1,af ak.enc 7 e.f2]::l,u.clean:=ax e.clean hl
def qT (n:Int) (v:V):Prop:=(n=0∧v=.bd)∨(n≠0∧v=.iface 216 (.agg [.int .i64 n]))
theorem qT.ga (n:Int):∀v,qT n v→dK v:=fun v hv=>by
 rcases hv with ⟨_,rfl⟩ | ⟨_,rfl⟩
 ·exact .bd
 ·exact .iface (.agg (bD (.int _ _) gb))
omit [Env] in
theorem qT.bad {n x:Int} (h:n=x) (hx:x≠0):qT n (.iface 216 (.agg [.int .i64 x])):=.inr ⟨by rw[h];exact hx,by rw[h]⟩
omit [Env] in
theorem qT.Au {n:Int} (h:n=0):qT n .bd:=.inl ⟨h,rfl⟩
theorem UT (h:P6 vs σ k):ag Tryz.prog 177 vs k σ:=by
 unfold P6 at h
 obtain⟨e,rfl,cT,h⟩:=h
 refine ag.aU (A:=qT (bJ e)) (ar e.aE aG) (qT.ga _) (F177.flat (live:=Ht) (call:=K5) (n₀:=0) (σ:=Go.Ev.start) (fun h=>HT h) rfl (by kernel_rfl) ?_) fun v hv=>by
  rcases hv with ⟨h1,rfl⟩ | ⟨h1,rfl⟩
  ·exact h.1 h1
  ·exact h.2 h1
 rw[afU]
 have hu:bJ e=if aF e.f0≠0 then aF e.f0 else if e.f1<1∨e.f1>5 then 5 else if bj e.f3≠0 then bj e.f3 else if e.f3.f0≠0∧e.f3.f0≠e.f1 then 11 else 0:=rfl
 refine⟨rfl,aq (fun h1=>?_) fun h1=>⟨rfl,aq (fun h2=>?_) fun h2=>⟨rfl,aq (fun h3=>?_) fun h3=>⟨cT,rfl,aq (fun h4=>?_) fun h4=>⟨rfl,aq (fun h5=>⟨rfl,aq (fun h6=>?_) fun h6=>?_⟩) fun h5=>?_⟩⟩⟩⟩⟩
 ·exact .bad (by rw[hu,if_pos h1]) h1
 ·exact .bad (by rw[hu,if_neg h1,if_pos (.inl h2)]) (by decide)
 ·exact .bad (by rw[hu,if_neg h1,if_pos (.inr h3)]) (by decide)
 ·exact .bad (by rw[hu,if_neg h1,if_neg (by omega),if_pos h4]) h4
 ·exact .bad (by rw[hu,if_neg h1,if_neg (by omega),if_neg h4,if_pos ⟨h5,h6⟩]) (by decide)
 ·exact .Au (by rw[hu,if_neg h1,if_neg (by omega),if_neg h4,if_neg fun hh=>h6 hh.2])
 ·exact .Au (by rw[hu,if_neg h1,if_neg (by omega),if_neg h4,if_neg fun hh=>h5 hh.1])
theorem HU:∀ {f:FuncId} {vs:List V} {σ:St} {k:ai},K6 f vs σ k→ag Tryz.prog f vs k σ:=fun h=>aD UT HT h
theorem UU (h:P7 vs σ k):ag Tryz.prog 107 vs k σ:=by
 unfold P7 at h
 obtain⟨e,rfl,cT,h⟩:=h
 refine ag.cb (ar e.aE aG) (.int _ _) (F107.flat (live:=Hu) (call:=K6) (n₀:=0) (σ:=Go.Ev.start) (fun h=>HU h) rfl (by kernel_rfl) ?_) h
 rw[afV]
 have hu:bJ e=if aF e.f0≠0 then aF e.f0 else if e.f1<1∨e.f1>5 then 5 else if bj e.f3≠0 then bj e.f3 else if e.f3.f0≠0∧e.f3.f0≠e.f1 then 11 else 0:=rfl
 refine⟨rfl,aq (fun h1=>?_) fun h1=>⟨rfl,aq (fun h2=>?_) fun h2=>⟨rfl,aq (fun h3=>?_) fun h3=>⟨cT,rfl,aq (fun h4=>?_) fun h4=>⟨rfl,aq (fun h5=>⟨rfl,aq (fun h6=>?_) fun h6=>?_⟩) fun h5=>?_⟩⟩⟩⟩⟩
 ·rw[hu,if_pos h1]
 ·rw[hu,if_neg h1,if_pos (.inl h2)]
 ·rw[hu,if_neg h1,if_pos (.inr h3)]
 ·rw[hu,if_neg h1,if_neg (by omega),if_pos h4]
 ·rw[hu,if_neg h1,if_neg (by omega),if_neg h4,if_pos ⟨h5,h6⟩]
 ·rw[hu,if_neg h1,if_neg (by omega),if_neg h4,if_neg fun hh=>h6 hh.2]
 ·rw[hu,if_neg h1,if_neg (by omega),if_neg h4,if_neg fun hh=>h5 hh.1]
theorem HV:∀ {f:FuncId} {vs:List V} {σ:St} {k:ai},Ep f vs σ k→ag Tryz.prog f vs k σ:=fun h=>aD UU HU h
def eo (e:ae) (i:Nat):ak:=e.f2.getD i default
omit [Env] in
theorem nd (e:ae):bK e=if aF e.f0≠0 then aF e.f0 else if e.f2.length<1∨e.f2.length>8 then 2 else if e.f1<1∨e.f1>3∨e.f1>e.f2.length then 1
 else if dy (fun i=>bJ (eo e i)) e.f2.length≠0 then dy (fun i=>bJ (eo e i)) e.f2.length
 else if fU (fun i=>(eo e i).f0) e.f2.length=false then 12 else if eP (eo e) e.f1.toNat=true then 11 else 0:=rfl
def s7 (e:ae):Prop:=aF e.f0=0∧(1≤e.f2.length∧e.f2.length≤8)∧1≤e.f1∧e.f1≤3∧e.f1≤e.f2.length
omit [Env] in
theorem s7.err {e:ae} (h:s7 e):bK e=if dy (fun i=>bJ (eo e i)) e.f2.length≠0 then dy (fun i=>bJ (eo e i)) e.f2.length
 else if fU (fun i=>(eo e i).f0) e.f2.length=false then 12 else if eP (eo e) e.f1.toNat=true then 11 else 0:=by
 obtain⟨h1,⟨h2,h3⟩,h4,h5,h6⟩:=h
 rw[nd,if_neg (fun h=>h h1),if_neg (by omega),if_neg (by omega)]
def agh (e:ae):Nat→List SV→Prop
 | 0,ss=>s7 e∧∃i:Nat,i≤e.f2.length∧(∀j,j<i→bJ (eo e j)=0)∧ss=[.box [.str e.f0,.int .i64 e.f1,af ak.enc 7 e.f2],.val (af ak.enc 7 e.f2),.val (.int .i64 ((e.f2.length:Nat):Int)),.val (.int .i64 i)]
 | _,_=>False
theorem UW (h:P8 vs σ k):ag Tryz.prog 134 vs k σ:=by
 unfold P8 at h
 obtain⟨e,rfl,cT,h⟩:=h
 refine ag.aU (A:=qT (bK e)) (ar e.aE aG) (qT.ga _) (F134.bV (live:=Aq) (call:=Ep) (n₀:=0) (σ:=Go.Ev.start) (fun h=>HV h) rfl 1 (by kernel_rfl) Nat.lt_wfRel.wf (fun _ ss=>e.f2.length-bF ss) (agh e) ?_ ?_ ?_) fun v hv=>by
  rcases hv with ⟨h1,rfl⟩ | ⟨h1,rfl⟩
  ·exact h.1 h1
  ·exact h.2 h1
 ·intro k ss hI
  cases k with
  | zero=>obtain⟨_,i,_,_,rfl⟩:=hI;exact Et e (ax (XW e) (ay (ay bg)))
  | succ k=>exact hI.elim
 ·rw[afW]
  refine⟨rfl,aq (fun h1=>?_) fun h1=>⟨rfl,aq (fun h2=>?_) fun h2=>⟨rfl,aq (fun h3=>?_) fun h3=>⟨rfl,aq (fun h4=>?_) fun h4=>⟨rfl,aq (fun h5=>?_) fun h5=>?_⟩⟩⟩⟩⟩
  ·exact .bad (by rw[nd,if_pos h1]) h1
  ·exact .bad (by rw[nd,if_neg h1,if_pos (by omega)]) (by decide)
  ·exact .bad (by rw[nd,if_neg h1,if_pos (by omega)]) (by decide)
  ·exact .bad (by rw[nd,if_neg h1,if_neg (by omega),if_pos (.inl h4)]) (by decide)
  ·refine .bad ?_ (by decide)
   rw[nd,if_neg h1,if_neg (by omega),if_pos]
   split at h5<;>omega
  ·have:e.f1≤3∧e.f1≤e.f2.length:=by split at h5<;>omega
   exact⟨⟨Decidable.not_not.1 h1,⟨by omega,by omega⟩,by omega,this.1,this.2⟩,0,by omega,fun j hj=>absurd hj (Nat.not_lt_zero j),rfl⟩
 ·intro k hk ss hI
  obtain rfl:k=0:=by omega
  obtain⟨ht,i,hi,hj,rfl⟩:=hI
  have hlen:=ht.2.1
  rw[afX]
  refine⟨rfl,aq (fun h1=>⟨⟨by omega,by omega⟩,eo e i,rfl,cT _ (bm (by omega)),fun h2=>?_,fun h2=>?_⟩) fun h1=>?_⟩
  ·rw[i64_in ((i:Int)+1) (by omega)]
   refine⟨⟨ht,i+1,by omega,fun j gK=>?_,rfl⟩,?_⟩
   ·by_cases e:j=i
    ·rw[e];exact h2
    ·exact hj j (by omega)
   ·show e.f2.length-((i:Int)+1).toNat<e.f2.length-(i:Int).toNat
    omega
  ·have hf:=jg (fun i=>bJ (eo e i)) e.f2.length i (by omega) h2 hj
   refine .bad ?_ h2
   rw[ht.err,hf,if_pos h2]
  ·obtain rfl:i=e.f2.length:=by omega
   have hf:=(cu (fun i=>bJ (eo e i)) e.f2.length).2 hj
   refine⟨eo e,rfl,by omega,_,rfl,by omega,aa.mk (fun h2=>?_) fun h2=>⟨⟨by omega,by have:=ht.2.2;omega,by have:=ht.2.2;omega,by omega⟩,eo e,?_,?_,aa.mk (fun h3=>?_) fun h3=>?_⟩⟩
   ·refine .bad ?_ (by decide)
    have h2:fU (fun i=>(eo e i).f0) e.f2.length=false:=by simpa using h2
    rw[ht.err,if_neg (fun h=>h hf),if_pos h2]
   ·funext i
    show ak.enc (e.f2.getD (Nat.add 0 i) default)=_
    rw[show Nat.add 0 i=i from Nat.zero_add i];rfl
   ·have:=ht.2.2;omega
   ·have h2:fU (fun i=>(eo e i).f0) e.f2.length=true:=by simpa using h2
    have h3:eP (eo e) e.f1.toNat=true:=h3
    refine .bad ?_ (by decide)
    rw[ht.err,if_neg (fun h=>h hf),if_neg (by rw[h2];decide),if_pos h3]
   ·have h2:fU (fun i=>(eo e i).f0) e.f2.length=true:=by simpa using h2
    refine .Au ?_
    have h3:eP (eo e) e.f1.toNat=false:=h3
    rw[ht.err,if_neg (fun h=>h hf),if_neg (by rw[h2];decide),if_neg (by rw[h3];decide)]
theorem UX:∀ {f:FuncId} {vs:List V} {σ:St} {k:ai},XE f vs σ k→ag Tryz.prog f vs k σ:=fun h=>aD UW HV h
variable [aL]
theorem UY (h:P9 vs σ k):ag Tryz.prog 133 vs k σ:=by
 unfold P9 at h
 split at h
 ·exact Px.mono fun v τ ⟨h1,h2⟩=>by subst h1;subst h2;exact h
 ·exact Py.mono fun v τ ⟨h1,h2⟩=>by subst h1;subst h2;exact h
 ·exact h.elim
theorem HW:∀ {f:FuncId} {vs:List V} {σ:St} {k:ai},K7 f vs σ k→ag Tryz.prog f vs k σ:=fun h=>aD UY UX h
theorem XX (h:XF vs σ k):ag Tryz.prog 81 vs k σ:=by
 unfold XF at h
 obtain⟨e,rfl,cT,h⟩:=h
 refine ag.cb (ar e.aE aG) (.int _ _) (F81.flat (live:=NG) (call:=K7) (n₀:=0) (σ:=Go.Ev.start) (fun h=>HW h) rfl (by kernel_rfl) ?_) h
 rw[e81]
 exact⟨e,rfl,cT,fun h1=>by rw[h1],fun _=>rfl⟩
theorem HX:∀ {f:FuncId} {vs:List V} {σ:St} {k:ai},Ar f vs σ k→ag Tryz.prog f vs k σ:=fun h=>aD XX HW h
def I57 (e:ae):Nat→List SV→Prop
 | 0,ss=>s7 e∧∃i:Nat,i≤e.f2.length∧(∀j,j<i→bJ (eo e j)=0)∧ss=[.box [.str e.f0,.int .i64 e.f1,af ak.enc 7 e.f2],.val (.int .i64 i)]
 | 1,ss=>s7 e∧(∀j,j<e.f2.length→bJ (eo e j)=0)∧fU (fun i=>(eo e i).f0) e.f2.length=true∧∃i:Nat,i≤e.f1∧(∀j,j<i→(eo e j).f2=false)∧ss=[.box [.str e.f0,.int .i64 e.f1,af ak.enc 7 e.f2],.val (.int .i64 i)]
 | _,_=>False
theorem XY (h:XG vs σ k):ag Tryz.prog 57 vs k σ:=by
 unfold XG at h
 obtain⟨e,rfl,cT,h⟩:=h
 refine ag.cb (ar e.aE aG) (.int _ _) (F57.bV (live:=y7) (call:=Ar) (n₀:=0) (σ:=Go.Ev.start) (fun h=>HX h) rfl 2 (by kernel_rfl) Nat.lt_wfRel.wf (fun k ss=>20*(1-k)+(10-bF ss)) (I57 e) ?_ ?_ ?_) h
 ·intro k ss hI
  match k,hI with
  | 0,hI=>obtain⟨_,i,_,_,rfl⟩:=hI;exact Et e (ay bg)
  | 1,hI=>obtain⟨_,_,_,i,_,_,rfl⟩:=hI;exact Et e (ay bg)
 ·rw[e57]
  refine⟨rfl,aq (fun h1=>?_) fun h1=>⟨rfl,aq (fun h2=>?_) fun h2=>⟨rfl,aq (fun h3=>?_) fun h3=>⟨rfl,aq (fun h4=>?_) fun h4=>⟨rfl,aq (fun h5=>?_) fun h5=>⟨rfl,aq (fun h6=>?_) fun h6=>?_⟩⟩⟩⟩⟩⟩
  ·rw[nd,if_pos h1]
  ·rw[nd,if_neg h1,if_pos (by omega)]
  ·rw[nd,if_neg h1,if_pos (by omega)]
  ·rw[nd,if_neg h1,if_neg (by omega),if_pos (.inl h4)]
  ·rw[nd,if_neg h1,if_neg (by omega),if_pos (.inr (.inl h5))]
  ·rw[nd,if_neg h1,if_neg (by omega),if_pos (.inr (.inr h6))]
  ·exact⟨⟨Decidable.not_not.1 h1,⟨by omega,by omega⟩,by omega,by omega,by omega⟩,0,by omega,fun j hj=>absurd hj (Nat.not_lt_zero j),rfl⟩
 ·intro k hk ss hI
  match k,hk,hI with
  | 0,hk,hI=>
   obtain⟨ht,i,hi,hj,rfl⟩:=hI
   have hlen:=ht.2.1
   rw[afY]
   refine⟨rfl,aq (fun h1=>⟨⟨by omega,by omega⟩,eo e i,rfl,cT _ (bm (by omega)),rfl,aq (fun h2=>?_) fun h2=>?_⟩) fun h1=>?_⟩
   ·have hf:=jg (fun i=>bJ (eo e i)) e.f2.length i (by omega) h2 hj
    rw[ht.err,hf,if_pos h2]
   ·rw[i64_in ((i:Int)+1) (by omega)]
    refine⟨⟨ht,i+1,by omega,fun j gK=>?_,rfl⟩,?_⟩
    ·by_cases e:j=i
     ·rw[e];exact Decidable.not_not.1 h2
     ·exact hj j (by omega)
    ·show 20*(1-0)+(10-((i:Int)+1).toNat)<20*(1-0)+(10-(i:Int).toNat)
     omega
   ·obtain rfl:i=e.f2.length:=by omega
    have hf:=(cu (fun i=>bJ (eo e i)) e.f2.length).2 hj
    refine⟨eo e,rfl,by omega,_,rfl,by omega,aa.mk (fun h2=>?_) fun h2=>?_⟩
    ·have h2:fU (fun i=>(eo e i).f0) e.f2.length=false:=by simpa using h2
     rw[ht.err,if_neg (fun h=>h hf),if_pos h2]
    ·have h2:fU (fun i=>(eo e i).f0) e.f2.length=true:=by simpa using h2
     refine⟨⟨ht,hj,h2,0,by have:=ht.2.2;omega,fun j hj=>absurd hj (Nat.not_lt_zero j),rfl⟩,?_⟩
     show 20*(1-1)+(10-(0:Int).toNat)<20*(1-0)+(10-((e.f2.length:Nat):Int).toNat)
     omega
  | 1,hk,hI=>
   obtain⟨ht,hj,hu,i,hi,hn,rfl⟩:=hI
   have hlen:=ht.2.1
   have hk1:=ht.2.2
   have hf:=(cu (fun i=>bJ (eo e i)) e.f2.length).2 hj
   rw[afZ]
   refine⟨rfl,aq (fun h1=>⟨⟨by omega,by omega⟩,aa.mk (fun h2=>?_) fun h2=>?_⟩) fun h1=>?_⟩
   ·have h3:eP (eo e) e.f1.toNat=true:=(kX _ _).2 ⟨i,by omega,h2⟩
    rw[ht.err,if_neg (fun h=>h hf),if_neg (by rw[hu];decide),if_pos h3]
   ·rw[i64_in ((i:Int)+1) (by omega)]
    refine⟨⟨ht,hj,hu,i+1,by omega,fun j gK=>?_,rfl⟩,?_⟩
    ·by_cases e:j=i
     ·rw[e];exact h2
     ·exact hn j (by omega)
    ·show 20*(1-1)+(10-((i:Int)+1).toNat)<20*(1-1)+(10-(i:Int).toNat)
     omega
   ·have h3:eP (eo e) e.f1.toNat=false:=by
     cases hb:eP (eo e) e.f1.toNat with
     | false=>rfl
     | true=>
      obtain⟨j,Ts,e2⟩:=(kX _ _).1 hb
      rw[hn j (by omega)] at e2;cases e2
    rw[ht.err,if_neg (fun h=>h hf),if_neg (by rw[hu];decide),if_neg (by rw[h3];decide)]
theorem HY:∀ {f:FuncId} {vs:List V} {σ:St} {k:ai},As f vs σ k→ag Tryz.prog f vs k σ:=fun h=>aD XY HX h
end
end Go.Proofs.YtbajncpfmemdgaaGreatDoor
end
section
namespace Go.Proofs.YtbajncpfmemdgaaGreatDoor
open Go Go.Ev Go.IntWalk
theorem kY {e:ae} (h:bK e=0):s7 e∧∀i,i<e.f2.length→bJ (eo e i)=0:=by
 have h':=h
 rw[nd] at h
 split at h
 ·omega
 rename_i h1
 split at h
 ·omega
 rename_i h2
 split at h
 ·omega
 rename_i h3
 have ht:s7 e:=⟨Decidable.not_not.1 h1,⟨by omega,by omega⟩,by omega,by omega,by omega⟩
 refine⟨ht,?_⟩
 split at h
 ·omega
 rename_i h4
 exact(cu (fun i=>bJ (eo e i)) e.f2.length).1 (Decidable.not_not.1 h4)
section
variable [Env] {vs:List V} {σ:St} {k:ai}
variable [aL]
end
end Go.Proofs.YtbajncpfmemdgaaGreatDoor
end
section
namespace Go.Proofs.YtbajncpfmemdgaaGreatDoor
open Go Go.Ev
def cJ (x:Int) (m:Nat):Int:=IntKind.u8.wrap (x.fdiv (2^m))
def kZ (x:Int):Nat→List UInt8
 | 0=>[]
 | j+1=>kZ x j++[byteOf (cJ x (56-8*j))]
def wC:Nat→List Nat:=(fun i=>match i with | 0=>[0,3,4] | _=>[])
theorem agi [Env] (A:Nat→List SV→Prop) (Q:V→Prop) (x:Int):WE Tryz.prog 199 Tryz.f199 As 0 wC A (fun v _=>Q v) [.int .u64 x] Go.Ev.start=
  (A 0 [.val (.int .u64 x),.val (.aj),.val (.int .i64 (0:Int))]):=by kernel_rfl
theorem aca [Env] (A:Nat→List SV→Prop) (Q:V→Prop) (x i:Int):WL Tryz.prog 199 Tryz.f199 As 0 wC A (fun v _=>Q v) 0 [.val (.int .u64 x),.val (.aj),.val (.int .i64 i)]=
  (((.i64:IntKind)=.i64∧aa (decide (i<(8:Int))) ((0≤(IntKind.u64.wrap (IntKind.i64.wrap ((56:Int)-(IntKind.i64.wrap ((8:Int)*i)))))∧(((1:Nat)=1∧(1:Nat)=1∧1*1=1*1)∧A 0 [.val (.int .u64 x),.row 1 (fun _=>.agg [.int .u8 (IntKind.u8.wrap (x.fdiv (2^min (IntKind.u64.wrap (IntKind.i64.wrap ((56:Int)-(IntKind.i64.wrap ((8:Int)*i))))).toNat IntKind.u64.bits)))]) 1,.val (.int .i64 (IntKind.i64.wrap (i+(1:Int))))]))) (Q (.str ([]))))):=by kernel_rfl
theorem acb [Env] (A:Nat→List SV→Prop) (Q:V→Prop) (x:Int) (n:Nat) (f:Nat→V) (i:Int):WL Tryz.prog 199 Tryz.f199 As 0 wC A (fun v _=>Q v) 0 [.val (.int .u64 x),.row n f 1,.val (.int .i64 i)]=
  (((.i64:IntKind)=.i64∧aa (decide (i<(8:Int))) ((0≤(IntKind.u64.wrap (IntKind.i64.wrap ((56:Int)-(IntKind.i64.wrap ((8:Int)*i)))))∧((n=n∧(n+1)*1≤1099511627776)∧(((n+1)=(n+1)∧1=1)∧A 0 [.val (.int .u64 x),.row (n+1) (cw n f (jK [.int .u8 (IntKind.u8.wrap (x.fdiv (2^min (IntKind.u64.wrap (IntKind.i64.wrap ((56:Int)-(IntKind.i64.wrap ((8:Int)*i))))).toNat IntKind.u64.bits)))])) 1,.val (.int .i64 (IntKind.i64.wrap (i+(1:Int))))])))) ((n=n∧∃s1,ez (aw (cj n f))=some s1∧Q (.str s1))))):=by kernel_rfl
def Qf [Env] (vs:List V) (σ:St) (k:ai):Prop:=
 match vs with
 | [.int .u64 x]=>k (.str (kZ x 8)) σ
 | _=>False
def La [Env]:=kS 199 Qf As
end Go.Proofs.YtbajncpfmemdgaaGreatDoor
end
section
namespace Go.Proofs.YtbajncpfmemdgaaGreatDoor
open Go Go.Ev
end Go.Proofs.YtbajncpfmemdgaaGreatDoor
end
section
namespace Go.Proofs.YtbajncpfmemdgaaGreatDoor
open Go Go.Ev
end Go.Proofs.YtbajncpfmemdgaaGreatDoor
end
section
namespace Go.Proofs.YtbajncpfmemdgaaGreatDoor
open Go Go.Ev Go.IntWalk
theorem F199:bc Tryz.prog 199 Tryz.f199:=.of (by kernel_rfl) (by kernel_rfl)
theorem Lb {i:Nat} (hi:i<8):IntKind.u64.wrap (IntKind.i64.wrap ((56:Int)-(IntKind.i64.wrap ((8:Int)*(i:Int)))))=((56-8*i:Nat):Int):=by
 rw[i64_in (8*(i:Int)) (by omega),i64_in (56-8*(i:Int)) (by omega),wrap_u64,Int.emod_eq_of_lt (by omega) (by omega)]
 omega
theorem HZ (x:Int) {i:Nat} (hi:i<8):IntKind.u8.wrap (x.fdiv (2^min (IntKind.u64.wrap (IntKind.i64.wrap ((56:Int)-(IntKind.i64.wrap ((8:Int)*(i:Int)))))).toNat IntKind.u64.bits))=cJ x (56-8*i):=by
 rw[Lb hi,Int.toNat_natCast,Nat.min_eq_left (show 56-8*i≤IntKind.u64.bits by show 56-8*i≤64;omega)]
 rfl
theorem y9 (x:Int) (m:Nat):0≤cJ x m∧cJ x m<256:=Qe _
theorem Eu {n:Nat} {f:Nat→V} {L:List UInt8} (h:qw n f L) [Env] {l:List SV} (hl:∀u∈l,u.clean):∀u∈SV.row n f 1::l,u.clean:=ax (fun i hi u hu=>by
 rw[h.2 i hi,List.mem_singleton] at hu
 subst hu;exact Go.Ev.Clean.int _ _) hl
section
variable [Env] [aL] {vs:List V} {σ:St} {k:ai}
def agj (x:Int):Nat→List SV→Prop
 | 0,ss=>ss=[.val (.int .u64 x),.val .aj,.val (.int .i64 (0:Int))]∨∃(i:Nat) (f:Nat→V),0<i∧i≤8∧qw i f (kZ x i)∧ss=[.val (.int .u64 x),.row i f 1,.val (.int .i64 i)]
 | _,_=>False
theorem UZ (h:Qf vs σ k):ag Tryz.prog 199 vs k σ:=by
 unfold Qf at h
 split at h
 ·rename_i x
  refine ag.cb (ar (Go.Ev.Clean.int _ _) aG) (.str _) (F199.bV (live:=wC) (call:=As) (n₀:=0) (σ:=Go.Ev.start) (fun h=>HY h) rfl 1 (by kernel_rfl) Nat.lt_wfRel.wf (fun _ ss=>8-bF ss) (agj x) ?_ ?_ ?_) h
  ·intro k ss hI
   cases k with
   | zero=>
    rcases hI with rfl | ⟨i,f,_,_,hf,rfl⟩
    ·exact ay (ax Go.Ev.Clean.aj (ay bg))
    ·exact ay (Eu hf (ay bg))
   | succ k=>exact hI.elim
  ·rw[agi]
   exact .inl rfl
  ·intro k hk ss hI
   obtain rfl:k=0:=by omega
   rcases hI with rfl | ⟨i,f,h0,hi,hf,rfl⟩
   ·have e1:=HZ x (i:=0) (by omega)
    have e2:=Lb (i:=0) (by omega)
    rw[show((0:Nat):Int)=0 from rfl] at e1 e2
    rw[aca,e1,e2]
    refine⟨rfl,aq (fun h1=>⟨by omega,⟨rfl,rfl,rfl⟩,?_⟩) fun h1=>absurd (by decide) h1⟩
    rw[i64_in ((0:Int)+1) (by omega)]
    have hr:=y9 x (56-8*0)
    refine⟨.inr ⟨1,_,by omega,by omega,.one hr.1 hr.2 rfl,rfl⟩,?_⟩
    show 8-((0:Int)+1).toNat<8-(0:Int).toNat
    decide
   ·rw[acb]
    refine⟨rfl,aq (fun h1=>?_) fun h1=>?_⟩
    ·have hi8:i<8:=by omega
     rw[HZ x hi8,Lb hi8,i64_in ((i:Int)+1) (by omega)]
     have hr:=y9 x (56-8*i)
     refine⟨by omega,⟨rfl,by omega⟩,⟨rfl,rfl⟩,.inr ⟨i+1,_,by omega,by omega,hf.append (.af8 hr.1 hr.2 rfl),rfl⟩,?_⟩
     show 8-((i:Int)+1).toNat<8-(i:Int).toNat
     omega
    ·obtain rfl:i=8:=by omega
     exact⟨rfl,_,hf.bytes,rfl⟩
 ·exact h.elim
theorem H0:∀ {f:FuncId} {vs:List V} {σ:St} {k:ai},La f vs σ k→ag Tryz.prog f vs k σ:=fun h=>aD UZ HY h
omit [Env] [aL] in
theorem Lc {v:aC} (h:bj v=0):v.f3.length≤64:=by
 unfold bj at h
 repeat' split at h
 all_goals omega
end
end Go.Proofs.YtbajncpfmemdgaaGreatDoor
end
section
namespace Go.Proofs.YtbajncpfmemdgaaGreatDoor
open Go Go.Ev Go.IntWalk
section
variable [Env] [aL] {vs:List V} {σ:St} {k:ai}
end
end Go.Proofs.YtbajncpfmemdgaaGreatDoor
end
section
namespace Go.Proofs.YtbajncpfmemdgaaGreatDoor
open Go Go.Ev Go.IntWalk
section
variable [Env] {vs:List V} {σ:St} {k:ai}
variable [aL]
end
end Go.Proofs.YtbajncpfmemdgaaGreatDoor
end
section
namespace Go.Proofs.YtbajncpfmemdgaaGreatDoor
open Go Go.Ev Go.IntWalk
section
variable [Env] {vs:List V} {σ:St} {k:ai}
variable [aL]
end
end Go.Proofs.YtbajncpfmemdgaaGreatDoor
end
section
namespace Go.Proofs.YtbajncpfmemdgaaGreatDoor
open Go Go.Ev
structure an where
 f0:Int
 f1:(List UInt8)
 f2:(List UInt8)
 f3:(List UInt8)
 f4:(List UInt8)
 f5:(List UInt8)
 f6:Int
 f7:(List (List UInt8))
 f8:ak
 f9:ae
 deriving Inhabited
def an.cells (e:an):List V:=[.int .i64 e.f0,.str e.f1,.str e.f2,.str e.f3,.str e.f4,.str e.f5,.int .i64 e.f6,af V.str 1 e.f7,.str e.f8.f0,.int .i64 e.f8.f1,.bool e.f8.f2,.int .i64 e.f8.f3.f0,.int .i64 e.f8.f3.f1,.int .u64 e.f8.f3.f2,.str e.f8.f3.f3,.str e.f9.f0,.int .i64 e.f9.f1,af ak.enc 7 e.f9.f2]
def an.enc (e:an):V:=.agg e.cells
theorem an.clean [Env] (e:an):∀u∈e.cells,Go.Ev.Clean u:=aI (Go.Ev.Clean.int _ _) (aI (Go.Ev.Clean.str _) (aI (Go.Ev.Clean.str _) (aI (Go.Ev.Clean.str _) (aI (Go.Ev.Clean.str _) (aI (Go.Ev.Clean.str _) (aI (Go.Ev.Clean.int _ _) (aI (fT (enc:=V.str) fun _ _=>aI (Go.Ev.Clean.str _) cM) (aI (Go.Ev.Clean.str _) (aI (Go.Ev.Clean.int _ _) (aI (Go.Ev.Clean.bool _) (aI (Go.Ev.Clean.int _ _) (aI (Go.Ev.Clean.int _ _) (aI (Go.Ev.Clean.int _ _) (aI (Go.Ev.Clean.str _) (aI (Go.Ev.Clean.str _) (aI (Go.Ev.Clean.int _ _) (aI (fT (enc:=ak.enc) fun x _=>ak.clean x) cM)))))))))))))))))
def H2 (p:Prop) (σ:St) (k:ai):Prop:=p∧k (.int .i64 0) σ∧k (.int .i64 1) σ
def NX:Nat→List Nat:=(fun _=>[])
theorem e69 [Env] (A:Nat→List SV→Prop) (Q:V→Prop) (e:aC):WE Tryz.prog 69 Tryz.f69 La 0 NX A (fun v _=>Q v) [aC.enc e] Go.Ev.start=
  (((.i64:IntKind)=.i64∧aa (decide ((((len e.f3:Nat):Int))>(2000:Int))) (Q (.int .i64 (0:Int))) (Q (.int .i64 (1:Int))))):=by kernel_rfl
def W69 [Env] (vs:List V) (σ:St) (k:ai):Prop:=
 H2 (∃e:aC,vs=[aC.enc e]) σ k
def vm [Env]:=kS 69 W69 La
def rJ:Nat→List Nat:=(fun i=>match i with | 0=>[0,3] | _=>[])
theorem Tt [Env] (A:Nat→List SV→Prop) (Q:V→Prop) (l:List (List UInt8)):WE Tryz.prog 68 Tryz.f68 vm 0 rJ A (fun v _=>Q v) [af V.str 1 l] Go.Ev.start=
  (((.i64:IntKind)=.i64∧aa (decide ((((l.length:Nat):Int))>(60:Int))) (Q (.int .i64 (0:Int))) (A 0 [.val (af V.str 1 l),.val (.int .i64 (0:Int))]))):=by kernel_rfl
theorem r68 [Env] (A:Nat→List SV→Prop) (Q:V→Prop) (l:List (List UInt8)) (i:Int):WL Tryz.prog 68 Tryz.f68 vm 0 rJ A (fun v _=>Q v) 0 [.val (af V.str 1 l),.val (.int .i64 i)]=
  (((.i64:IntKind)=.i64∧aa (decide (i<(((l.length:Nat):Int)))) (((0≤i∧i<((l.length:Nat):Int))∧((.i64:IntKind)=.i64∧aa (decide ((((len ((l.getD i.toNat default)):Nat):Int))>(500:Int))) (Q (.int .i64 (0:Int))) (A 0 [.val (af V.str 1 l),.val (.int .i64 (IntKind.i64.wrap (i+(1:Int))))])))) (Q (.int .i64 (1:Int))))):=by kernel_rfl
def W68 [Env] (vs:List V) (σ:St) (k:ai):Prop:=
 H2 (∃l:List (List UInt8),bA σ vs [af V.str 1 l]) σ k
def Az [Env]:=kS 68 W68 vm
def za:Nat→List Nat:=(fun i=>match i with | 0=>[1,3] | _=>[])
theorem e52 [Env] (A:Nat→List SV→Prop) (Q:V→Prop) (e:ae):WE Tryz.prog 52 Tryz.f52 Az 0 za A (fun v _=>Q v) [ae.enc e] Go.Ev.start=
  (((.i64:IntKind)=.i64∧aa (decide ((((e.f2.length:Nat):Int))>(20:Int))) (Q (.int .i64 (0:Int))) (((.i64:IntKind)=.i64∧aa (decide ((((len e.f0:Nat):Int))>(500:Int))) (Q (.int .i64 (0:Int))) (A 0 [.box [.str e.f0,.int .i64 e.f1,af ak.enc 7 e.f2],.val (.int .i64 (0:Int))]))))):=by kernel_rfl
theorem r52 [Env] (A:Nat→List SV→Prop) (Q:V→Prop) (e:ae) (i:Int):WL Tryz.prog 52 Tryz.f52 Az 0 za A (fun v _=>Q v) 0 [.box [.str e.f0,.int .i64 e.f1,af ak.enc 7 e.f2],.val (.int .i64 i)]=
  (((.i64:IntKind)=.i64∧aa (decide (i<(((e.f2.length:Nat):Int)))) (((0≤i∧i<((e.f2.length:Nat):Int))∧((.i64:IntKind)=.i64∧aa (decide ((((len ((e.f2.getD i.toNat default).f0):Nat):Int))>(500:Int))) (Q (.int .i64 (0:Int))) (((0≤i∧i<((e.f2.length:Nat):Int))∧((∃q19:aC,[.agg [.int .i64 ((e.f2.getD i.toNat default).f3.f0),.int .i64 ((e.f2.getD i.toNat default).f3.f1),.int .u64 ((e.f2.getD i.toNat default).f3.f2),.str ((e.f2.getD i.toNat default).f3.f3)]]=[aC.enc q19])∧((.i64:IntKind)=.i64∧Q (.int .i64 (0:Int)))∧((.i64:IntKind)=.i64∧A 0 [.box [.str e.f0,.int .i64 e.f1,af ak.enc 7 e.f2],.val (.int .i64 (IntKind.i64.wrap (i+(1:Int))))]))))))) (Q (.int .i64 (1:Int))))):=by kernel_rfl
def W52 [Env] (vs:List V) (σ:St) (k:ai):Prop:=
 H2 (∃e:ae,vs=[ae.enc e]) σ k
def Ld [Env]:=kS 52 W52 Az
def zd:Nat→List Nat:=(fun _=>[])
theorem e28 [Env] (A:Nat→List SV→Prop) (Q:V→Prop) (e:an):WE Tryz.prog 28 Tryz.f28 Ld 0 zd A (fun v _=>Q v) [an.enc e] Go.Ev.start=
  (((∃q20:List (List UInt8),bA ⟨(St.new (St.new Go.Ev.start 0 (.cells 18 [] (ah [.int .i64 e.f0,.str e.f1,.str e.f2,.str e.f3,.str e.f4,.str e.f5,.int .i64 e.f6,af V.str 1 e.f7,.str e.f8.f0,.int .i64 e.f8.f1,.bool e.f8.f2,.int .i64 e.f8.f3.f0,.int .i64 e.f8.f3.f1,.int .u64 e.f8.f3.f2,.str e.f8.f3.f3,.str e.f9.f0,.int .i64 e.f9.f1,af ak.enc 7 e.f9.f2] .leaf 0) true false)) 1 (.cells 6 [] (ah [.str e.f1,.str e.f2,.str e.f3,.str e.f4,.str e.f5,.str e.f8.f0] .leaf 0) true false)).heap,2⟩ [af V.str 1 e.f7] [af V.str 1 q20])∧((.i64:IntKind)=.i64∧Q (.int .i64 (0:Int)))∧((.i64:IntKind)=.i64∧((∃q21:List (List UInt8),bA ⟨(St.new (St.new Go.Ev.start 0 (.cells 18 [] (ah [.int .i64 e.f0,.str e.f1,.str e.f2,.str e.f3,.str e.f4,.str e.f5,.int .i64 e.f6,af V.str 1 e.f7,.str e.f8.f0,.int .i64 e.f8.f1,.bool e.f8.f2,.int .i64 e.f8.f3.f0,.int .i64 e.f8.f3.f1,.int .u64 e.f8.f3.f2,.str e.f8.f3.f3,.str e.f9.f0,.int .i64 e.f9.f1,af ak.enc 7 e.f9.f2] .leaf 0) true false)) 1 (.cells 6 [] (ah [.str e.f1,.str e.f2,.str e.f3,.str e.f4,.str e.f5,.str e.f8.f0] .leaf 0) true false)).heap,2⟩ [.slice 1 0 (6) (6) true 1] [af V.str 1 q21])∧((.i64:IntKind)=.i64∧Q (.int .i64 (0:Int)))∧((.i64:IntKind)=.i64∧((∃q22:ae,[.agg [.str e.f9.f0,.int .i64 e.f9.f1,af ak.enc 7 e.f9.f2]]=[ae.enc q22])∧((.i64:IntKind)=.i64∧Q (.int .i64 (0:Int)))∧((.i64:IntKind)=.i64∧((∃q23:aC,[.agg [.int .i64 e.f8.f3.f0,.int .i64 e.f8.f3.f1,.int .u64 e.f8.f3.f2,.str e.f8.f3.f3]]=[aC.enc q23])∧((.i64:IntKind)=.i64∧Q (.int .i64 (0:Int)))∧((.i64:IntKind)=.i64∧Q (.int .i64 (1:Int))))))))))):=by kernel_rfl
def W28 [Env] (vs:List V) (σ:St) (k:ai):Prop:=
 H2 (∃e:an,vs=[an.enc e]) σ k
def Le [Env]:=kS 28 W28 Ld
end Go.Proofs.YtbajncpfmemdgaaGreatDoor
end
section
namespace Go.Proofs.YtbajncpfmemdgaaGreatDoor
open Go Go.Ev
end Go.Proofs.YtbajncpfmemdgaaGreatDoor
end
section
namespace Go.Proofs.YtbajncpfmemdgaaGreatDoor
open Go Go.Ev Go.IntWalk
theorem F69:bc Tryz.prog 69 Tryz.f69:=.of (by kernel_rfl) (by kernel_rfl)
theorem F68:bc Tryz.prog 68 Tryz.f68:=.of (by kernel_rfl) (by kernel_rfl)
theorem F52:bc Tryz.prog 52 Tryz.f52:=.of (by kernel_rfl) (by kernel_rfl)
theorem F28:bc Tryz.prog 28 Tryz.f28:=.of (by kernel_rfl) (by kernel_rfl)
theorem an.aE [Env] (e:an):Go.Ev.Clean (an.enc e):=Go.Ev.Clean.agg e.clean
section
variable [Env] {vs:List V} {σ:St} {k:ai}
theorem vn {v:V} (h:Go.Ev.Clean v):bA σ [v] [v]:=.cons (.clean h) .nil
variable [aL]
def Z (v:V):Prop:=v=.int .i64 0∨v=.int .i64 1
omit [Env] in
theorem Z.ga (v:V) (h:Z v):V.ga v=true:=by rcases h with rfl | rfl<;>rfl
omit [aL] in
theorem vo {f:FuncId} {us:List V} {p:Prop} (hf:bA σ vs us) (h:ag Tryz.prog f us (fun v _=>Z v) Go.Ev.start) (ht:H2 p σ k):ag Tryz.prog f vs k σ:=
 ag.Ny hf Z.ga h fun v hv=>by
  rcases hv with rfl | rfl
  ·exact ht.2.1
  ·exact ht.2.2
omit [Env] in
theorem z0:Z (.int .i64 0):=.inl rfl
omit [Env] in
theorem z1:Z (.int .i64 1):=.inr rfl
theorem XZ (h:W69 vs σ k):ag Tryz.prog 69 vs k σ:=by
 obtain⟨e,rfl⟩:=h.1
 refine vo (vn e.aE) (F69.flat (live:=NX) (call:=La) (n₀:=0) (fun h=>H0 h) rfl (by kernel_rfl) ?_) h
 rw[e69]
 exact⟨rfl,aa.mk (fun _=>z0) fun _=>z1⟩
theorem rK:∀ {f:FuncId} {vs:List V} {σ:St} {k:ai},vm f vs σ k→ag Tryz.prog f vs k σ:=fun h=>aD XZ H0 h
def NY {α:Type} [Inhabited α] (enc:α→V) (esz:Nat) (l:List α):Nat→List SV→Prop
 | 0,ss=>∃i:Int,0≤i∧i≤l.length∧ss=[.val (af enc esz l),.val (.int .i64 i)]
 | _,_=>False
omit [aL] in
theorem qx {α:Type} [Inhabited α] {enc:α→V} {esz:Nat} {l:List α} (hc:Go.Ev.Clean (af enc esz l)):∀k ss,NY enc esz l k ss→∀s∈ss,s.clean:=by
 intro k ss hI s hs
 cases k with
 | zero=>
  obtain⟨i,_,_,rfl⟩:=hI
  simp only[List.mem_cons,List.not_mem_nil,or_false] at hs
  rcases hs with rfl | rfl
  ·exact hc
  ·exact Go.Ev.Clean.int _ _
 | succ k=>exact hI.elim
omit [Env] in
theorem jh (v:V) (i:Int):bF [.val v,.val (.int .i64 i)]=i.toNat:=by cases v<;>rfl
omit [Env] in
theorem my {α:Type} [Inhabited α] (enc:α→V) (l:List α):cj l.length (fun i=>enc (l.getD i default))=l.map enc:=by
 apply List.ext_getElem?
 intro i
 by_cases h:i<l.length
 ·rw[dt h,List.getElem?_map,List.getElem?_eq_getElem h,List.getD_eq_getElem?_getD,List.getElem?_eq_getElem h];rfl
 ·rw[List.getElem?_eq_none (by rw[aY];omega),List.getElem?_eq_none (by rw[List.length_map];omega)]
omit [aL] in
theorem B0 {b n cap:Nat} {ex:Bool} (ls:List (List UInt8)) (hn:ls.length=n) (h:σ.cells b 0 (n*1)=some (ls.map V.str)):bA σ [V.slice b 0 n cap ex 1] [af V.str 1 ls]:=by
 have e1:∀l:List (List UInt8),aw (l.map V.str)=l.map V.str:=by
  intro l
  induction l with
  | nil=>rfl
  | cons x l ih=>rw[List.map_cons,ca,ih];rfl
 have e2:∀l:List (List UInt8),bA σ (l.map V.str) (l.map V.str):=fun l=>bA.clean fun v hv=>by
  obtain⟨x,_,rfl⟩:=List.mem_map.1 hv
  exact Go.Ev.Clean.str x
 refine .cons (.jT (.slice h ?_ ?_ ?_)) .nil
 ·rw[my,e1];exact e2 ls
 ·rw[my]
  intro v hv
  obtain⟨x,_,rfl⟩:=List.mem_map.1 hv
  rfl
 ·rw[aY,hn]
theorem X0 (h:W68 vs σ k):ag Tryz.prog 68 vs k σ:=by
 obtain⟨l,hf⟩:=h.1
 have hc:Go.Ev.Clean (af V.str 1 l):=fT fun _ _=>aI (Go.Ev.Clean.str _) cM
 refine vo hf ?_ h
 by_cases hl:l.length≤60
 ·refine F68.bV (live:=rJ) (call:=vm) (n₀:=0) (fun h=>rK h) rfl 1 (by kernel_rfl) Nat.lt_wfRel.wf (fun _ ss=>60-bF ss) (NY V.str 1 l) (qx hc) ?_ ?_
  ·rw[Tt]
   exact⟨rfl,aa.mk (fun e=>absurd (of_decide_eq_true e) (by omega)) fun _=>⟨0,by omega,by omega,rfl⟩⟩
  ·intro k hk ss hI
   obtain rfl:k=0:=by omega
   obtain⟨i,h0,h1,rfl⟩:=hI
   rw[r68]
   refine⟨rfl,aa.mk (fun e=>?_) fun _=>z1⟩
   have e:=of_decide_eq_true e
   refine⟨⟨h0,e⟩,rfl,aa.mk (fun _=>z0) fun _=>⟨⟨i+1,by omega,by omega,by rw[i64_in _ (by omega)]⟩,?_⟩⟩
   rw[i64_in _ (by omega),jh,jh]
   show 60-(i+1).toNat<60-i.toNat
   omega
 ·refine F68.bV (live:=rJ) (call:=vm) (n₀:=0) (fun h=>rK h) rfl 1 (by kernel_rfl) Nat.lt_wfRel.wf (fun _ _=>0) (fun _ _=>False) (fun _ _ h=>h.elim) ?_ fun _ _ _ h=>h.elim
  rw[Tt]
  exact⟨rfl,aa.mk (fun _=>z0) fun e=>absurd (of_decide_eq_false e) (by omega)⟩
theorem AA:∀ {f:FuncId} {vs:List V} {σ:St} {k:ai},Az f vs σ k→ag Tryz.prog f vs k σ:=fun h=>aD X0 rK h
def I52 (e:ae):Nat→List SV→Prop
 | 0,ss=>∃i:Int,0≤i∧i≤e.f2.length∧ss=[.box [.str e.f0,.int .i64 e.f1,af ak.enc 7 e.f2],.val (.int .i64 i)]
 | _,_=>False
theorem X1 (h:W52 vs σ k):ag Tryz.prog 52 vs k σ:=by
 obtain⟨e,rfl⟩:=h.1
 refine vo (vn e.aE) ?_ h
 by_cases hl:e.f2.length≤20
 ·refine F52.bV (live:=za) (call:=Az) (n₀:=0) (fun h=>AA h) rfl 1 (by kernel_rfl) Nat.lt_wfRel.wf (fun _ ss=>20-bF ss) (I52 e) ?_ ?_ ?_
  ·intro k ss hI s hs
   cases k with
   | zero=>
    obtain⟨i,_,_,rfl⟩:=hI
    simp only[List.mem_cons,List.not_mem_nil,or_false] at hs
    rcases hs with rfl | rfl
    ·exact e.clean
    ·exact Go.Ev.Clean.int _ _
   | succ k=>exact hI.elim
  ·rw[e52]
   exact⟨rfl,aa.mk (fun e=>absurd (of_decide_eq_true e) (by omega)) fun _=>⟨rfl,aa.mk (fun _=>z0) fun _=>⟨0,by omega,by omega,rfl⟩⟩⟩
  ·intro k hk ss hI
   obtain rfl:k=0:=by omega
   obtain⟨i,h0,h1,rfl⟩:=hI
   rw[r52]
   refine⟨rfl,aa.mk (fun q=>?_) fun _=>z1⟩
   have q:=of_decide_eq_true q
   refine⟨⟨h0,q⟩,rfl,aa.mk (fun _=>z0) fun _=>⟨⟨h0,q⟩,⟨(e.f2.getD i.toNat default).f3,rfl⟩,⟨rfl,z0⟩,rfl,⟨i+1,by omega,by omega,by rw[i64_in _ (by omega)]⟩,?_⟩⟩
   rw[i64_in _ (by omega)]
   show 20-(i+1).toNat<20-i.toNat
   omega
 ·refine F52.bV (live:=za) (call:=Az) (n₀:=0) (fun h=>AA h) rfl 1 (by kernel_rfl) Nat.lt_wfRel.wf (fun _ _=>0) (fun _ _=>False) (fun _ _ h=>h.elim) ?_ fun _ _ _ h=>h.elim
  rw[e52]
  exact⟨rfl,aa.mk (fun _=>z0) fun e=>absurd (of_decide_eq_false e) (by omega)⟩
theorem H3:∀ {f:FuncId} {vs:List V} {σ:St} {k:ai},Ld f vs σ k→ag Tryz.prog f vs k σ:=fun h=>aD X1 AA h
theorem X2 (h:W28 vs σ k):ag Tryz.prog 28 vs k σ:=by
 obtain⟨e,rfl⟩:=h.1
 refine vo (vn e.aE) (F28.flat (live:=zd) (call:=Ld) (n₀:=0) (fun h=>H3 h) rfl (by kernel_rfl) ?_) h
 rw[e28]
 refine⟨⟨e.f7,vn (fT fun _ _=>aI (Go.Ev.Clean.str _) cM)⟩,⟨rfl,z0⟩,rfl,⟨[e.f1,e.f2,e.f3,e.f4,e.f5,e.f8.f0],B0 _ rfl (by kernel_rfl)⟩,⟨rfl,z0⟩,rfl,⟨e.f9,rfl⟩,⟨rfl,z0⟩,rfl,⟨e.f8.f3,rfl⟩,⟨rfl,z0⟩,rfl,z1⟩
theorem H4:∀ {f:FuncId} {vs:List V} {σ:St} {k:ai},Le f vs σ k→ag Tryz.prog f vs k σ:=fun h=>aD X2 H3 h
end
end Go.Proofs.YtbajncpfmemdgaaGreatDoor
end
section
namespace Go.Proofs.YtbajncpfmemdgaaGreatDoor.ze
open Go.Ev
end Go.Proofs.YtbajncpfmemdgaaGreatDoor.ze
end
section
set_option maxRecDepth 100000
namespace Go.Proofs.YtbajncpfmemdgaaGreatDoor.ze
open Go.Ev
end Go.Proofs.YtbajncpfmemdgaaGreatDoor.ze
end
section
namespace Go.Proofs.YtbajncpfmemdgaaGreatDoor.ze
open Go.Ev
end Go.Proofs.YtbajncpfmemdgaaGreatDoor.ze
end
section
namespace Go.Proofs.YtbajncpfmemdgaaGreatDoor
open Go Go.Ev Go.IntWalk
section
variable [Env] {vs:List V} {σ:St} {k:ai}
variable [aL]
end
end Go.Proofs.YtbajncpfmemdgaaGreatDoor
end
section
namespace Go.Proofs.YtbajncpfmemdgaaGreatDoor
open Go Go.Ev
def iY (a b:Int):Bool:=decide ((1≤a∧a≤5)∧(1≤b∧b≤5)∧¬(a=1∧b=4)∧¬(a=4∧b=1)∧¬(a=3∧b=5)∧¬(a=5∧b=3))
def fM:Nat→Nat→List UInt8
 | 0,m=>[byteOf ((48+m:Nat):Int)]
 | f+1,m=>if m<10 then [byteOf ((48+m:Nat):Int)] else fM f (m/10)++[byteOf ((48+m%10:Nat):Int)]
def gd (n:Int):List UInt8:=(if n<0 then [byteOf 45] else [])++fM 20 n.natAbs
def dL (n:Int):Prop:= -9223372036854775808≤n∧n≤9223372036854775807
def AB (s:List UInt8):Prop:=∃n,dL n∧gd n=s
noncomputable def gW (s:List UInt8):Int:=@dite _ (AB s) (Classical.propDecidable _) (fun h=>Classical.choose h) fun _=>0
noncomputable def fw (s:List UInt8):Int:=@ite _ (AB s) (Classical.propDecidable _) 0 7
def H5:Nat→List Nat:=(fun _=>[])
abbrev Ew [Env] (A:Nat→List SV→Prop) (Q:V→Prop) (a b:Int):Prop:=
 ((.i64:IntKind)=.i64∧aa (decide (a=(3:Int))) (((.i64:IntKind)=.i64∧aa (decide (b=(5:Int))) (Q (.bool false)) (((.i64:IntKind)=.i64∧aa (decide (a=(5:Int))) (((.i64:IntKind)=.i64∧aa (decide (b=(3:Int))) (Q (.bool false)) (Q (.bool true)))) (Q (.bool true)))))) (((.i64:IntKind)=.i64∧aa (decide (a=(5:Int))) (((.i64:IntKind)=.i64∧aa (decide (b=(3:Int))) (Q (.bool false)) (Q (.bool true)))) (Q (.bool true)))))
theorem agk [Env] (A:Nat→List SV→Prop) (Q:V→Prop) (a b:Int):WE Tryz.prog 253 Tryz.f253 Le 0 H5 A (fun v _=>Q v) [.int .i64 a,.int .i64 b] Go.Ev.start=
  (((.i64:IntKind)=.i64∧aa (decide (a<(1:Int))) (Q (.bool false)) (((.i64:IntKind)=.i64∧aa (decide (a>(5:Int))) (Q (.bool false)) (((.i64:IntKind)=.i64∧aa (decide (b<(1:Int))) (Q (.bool false)) (((.i64:IntKind)=.i64∧aa (decide (b>(5:Int))) (Q (.bool false)) (((.i64:IntKind)=.i64∧aa (decide (a=(1:Int))) (((.i64:IntKind)=.i64∧aa (decide (b=(4:Int))) (Q (.bool false)) (((.i64:IntKind)=.i64∧aa (decide (a=(4:Int))) (((.i64:IntKind)=.i64∧aa (decide (b=(1:Int))) (Q (.bool false)) ((Ew A Q a b)))) ((Ew A Q a b)))))) (((.i64:IntKind)=.i64∧aa (decide (a=(4:Int))) (((.i64:IntKind)=.i64∧aa (decide (b=(1:Int))) (Q (.bool false)) ((Ew A Q a b)))) ((Ew A Q a b)))))))))))))):=by kernel_rfl
def Qg [Env] (vs:List V) (σ:St) (k:ai):Prop:=
 match vs with
 | [.int .i64 a,.int .i64 b]=>k (.bool (iY a b)) σ
 | _=>False
def Lf [Env]:=kS 253 Qg Le
def H6:Nat→List Nat:=(fun _=>[])
theorem agl [Env] (A:Nat→List SV→Prop) (Q:V→Prop) (a b:Int):WE Tryz.prog 162 Tryz.f162 Lf 0 H6 A (fun v _=>Q v) [.int .i64 a,.int .i64 b] Go.Ev.start=
  (((.i64:IntKind)=.i64∧aa (decide (a<(1:Int))) (Q (.bool false)) (((.i64:IntKind)=.i64∧aa (decide (a>(5:Int))) (Q (.bool false)) (((.i64:IntKind)=.i64∧aa (decide (b<(1:Int))) (Q (.bool false)) (((.i64:IntKind)=.i64∧aa (decide (b>(5:Int))) (Q (.bool false)) (((.i64:IntKind)=.i64∧aa (decide (a=(1:Int))) (((.i64:IntKind)=.i64∧aa (decide (b≠(4:Int))) (Q (.bool true)) (Q (.bool false)))) (((.i64:IntKind)=.i64∧aa (decide (a=(3:Int))) (((.i64:IntKind)=.i64∧aa (decide (b≠(5:Int))) (Q (.bool true)) (Q (.bool false)))) (((.i64:IntKind)=.i64∧aa (decide (a=(4:Int))) (((.i64:IntKind)=.i64∧aa (decide (b≠(1:Int))) (Q (.bool true)) (Q (.bool false)))) (((.i64:IntKind)=.i64∧aa (decide (a=(5:Int))) (((.i64:IntKind)=.i64∧aa (decide (b≠(3:Int))) (Q (.bool true)) (Q (.bool false)))) (Q (.bool true)))))))))))))))))):=by kernel_rfl
def Qh [Env] (vs:List V) (σ:St) (k:ai):Prop:=
 match vs with
 | [.int .i64 a,.int .i64 b]=>k (.bool (iY a b)) σ
 | _=>False
def Lg [Env]:=kS 162 Qh Lf
def H7:Nat→List Nat:=(fun _=>[])
theorem agm [Env] (A:Nat→List SV→Prop) (Q:V→St→Prop) (e:Int):WE Tryz.prog 251 Tryz.f251 Lg 0 H7 A Q [.int .i64 e] Go.Ev.start=
  (Q (.func (.func 265) [] [.ptr 0 0]) ⟨(St.new Go.Ev.start 0 (.cells 1 [] (ah [.int .i64 e] .leaf 0) true false)).heap,1⟩):=by kernel_rfl
def Qi [Env] (vs:List V) (σ:St) (k:ai):Prop:=
 match vs with
 | [.int .i64 e]=>k (.func (.func 265) [] [.aQ [.int .i64 e] 0]) σ
 | _=>False
def Lh [Env]:=kS 251 Qi Lg
def H8:Nat→List Nat:=(fun _=>[])
theorem agn [Env] (A:Nat→List SV→Prop) (Q:V→St→Prop) (e:aC):WE Tryz.prog 252 Tryz.f252 Lh 0 H8 A Q [aC.enc e] Go.Ev.start=
  (Q (.func (.func 266) [] [.ptr 0 0]) ⟨(St.new Go.Ev.start 0 (.cells 4 [] (ah [.int .i64 e.f0,.int .i64 e.f1,.int .u64 e.f2,.str e.f3] .leaf 0) true false)).heap,1⟩):=by kernel_rfl
def Qj [Env] (vs:List V) (σ:St) (k:ai):Prop:=
 match vs with
 | [.agg [.int .i64 a,.int .i64 b,.int .u64 c,.str s]]=>k (.func (.func 266) [] [.aQ [.int .i64 a,.int .i64 b,.int .u64 c,.str s] 0]) σ
 | _=>False
def Li [Env]:=kS 252 Qj Lh
def H9:Nat→List Nat:=(fun _=>[])
theorem ago [Env] (A:Nat→List SV→Prop) (Q:V→Prop) (e:Int):WE Tryz.prog 265 Tryz.f265 Li 0 H9 A (fun v _=>Q v) [.aQ [.int .i64 e] 0] Go.Ev.start=
  (Q (.tuple [.agg [.int .i64 (0:Int),.int .i64 (0:Int),.int .u64 (0:Int),.str ([])],.int .i64 e])):=by kernel_rfl
def Qk [Env] (vs:List V) (σ:St) (k:ai):Prop:=
 match vs with
 | [.aQ [.int .i64 e] 0]=>k (.tuple [.agg [.int .i64 0,.int .i64 0,.int .u64 0,.str []],.int .i64 e]) σ
 | _=>False
def Lj [Env]:=kS 265 Qk Li
def Ia:Nat→List Nat:=(fun _=>[])
theorem agp [Env] (A:Nat→List SV→Prop) (Q:V→Prop) (a b c:Int) (s:List UInt8):WE Tryz.prog 266 Tryz.f266 Lj 0 Ia A (fun v _=>Q v) [.aQ [.int .i64 a,.int .i64 b,.int .u64 c,.str s] 0] Go.Ev.start=
  (Q (.tuple [.agg [.int .i64 a,.int .i64 b,.int .u64 c,.str s],.int .i64 (0:Int)])):=by kernel_rfl
def Ql [Env] (vs:List V) (σ:St) (k:ai):Prop:=
 match vs with
 | [.aQ [.int .i64 a,.int .i64 b,.int .u64 c,.str s] 0]=>k (.tuple [.agg [.int .i64 a,.int .i64 b,.int .u64 c,.str s],.int .i64 0]) σ
 | _=>False
def ng [Env]:=kS 266 Ql Lj
def iZ:Nat→List Nat:=(fun i=>match i with | 0=>[0,3,5] | _=>[])
theorem agq [Env] (A:Nat→List SV→Prop) (Q:V→Prop) (x:Int):WE Tryz.prog 268 Tryz.f268 ng 0 iZ A (fun v _=>Q v) [.int .u64 x] Go.Ev.start=
  (A 0 [.val (.int .u64 x),.box [.int .u8 (0:Int),.int .u8 (0:Int),.int .u8 (0:Int),.int .u8 (0:Int),.int .u8 (0:Int),.int .u8 (0:Int),.int .u8 (0:Int),.int .u8 (0:Int)],.val (.int .i64 (0:Int))]):=by kernel_rfl
theorem X5 [Env] (A:Nat→List SV→Prop) (Q:V→Prop) (x:Int) (c:Nat→Int):WL Tryz.prog 268 Tryz.f268 ng 0 iZ A (fun v _=>Q v) 0 [.val (.int .u64 x),.box [.int .u8 (0:Int),.int .u8 (0:Int),.int .u8 (0:Int),.int .u8 (0:Int),.int .u8 (0:Int),.int .u8 (0:Int),.int .u8 (0:Int),.int .u8 (0:Int)],.val (.int .i64 (0:Int))]=
  (((.i64:IntKind)=.i64∧(0≤(56:Int)∧A 0 [.val (.int .u64 x),.box [.int .u8 (IntKind.u8.wrap (x.fdiv (2^min (56:Int).toNat IntKind.u64.bits))),.int .u8 (0:Int),.int .u8 (0:Int),.int .u8 (0:Int),.int .u8 (0:Int),.int .u8 (0:Int),.int .u8 (0:Int),.int .u8 (0:Int)],.val (.int .i64 (1:Int))]))):=by kernel_rfl
theorem X6 [Env] (A:Nat→List SV→Prop) (Q:V→Prop) (x:Int) (c:Nat→Int):WL Tryz.prog 268 Tryz.f268 ng 0 iZ A (fun v _=>Q v) 0 [.val (.int .u64 x),.box [.int .u8 (c 0),.int .u8 (0:Int),.int .u8 (0:Int),.int .u8 (0:Int),.int .u8 (0:Int),.int .u8 (0:Int),.int .u8 (0:Int),.int .u8 (0:Int)],.val (.int .i64 (1:Int))]=
  (((.i64:IntKind)=.i64∧(0≤(48:Int)∧A 0 [.val (.int .u64 x),.box [.int .u8 (c 0),.int .u8 (IntKind.u8.wrap (x.fdiv (2^min (48:Int).toNat IntKind.u64.bits))),.int .u8 (0:Int),.int .u8 (0:Int),.int .u8 (0:Int),.int .u8 (0:Int),.int .u8 (0:Int),.int .u8 (0:Int)],.val (.int .i64 (2:Int))]))):=by kernel_rfl
theorem X7 [Env] (A:Nat→List SV→Prop) (Q:V→Prop) (x:Int) (c:Nat→Int):WL Tryz.prog 268 Tryz.f268 ng 0 iZ A (fun v _=>Q v) 0 [.val (.int .u64 x),.box [.int .u8 (c 0),.int .u8 (c 1),.int .u8 (0:Int),.int .u8 (0:Int),.int .u8 (0:Int),.int .u8 (0:Int),.int .u8 (0:Int),.int .u8 (0:Int)],.val (.int .i64 (2:Int))]=
  (((.i64:IntKind)=.i64∧(0≤(40:Int)∧A 0 [.val (.int .u64 x),.box [.int .u8 (c 0),.int .u8 (c 1),.int .u8 (IntKind.u8.wrap (x.fdiv (2^min (40:Int).toNat IntKind.u64.bits))),.int .u8 (0:Int),.int .u8 (0:Int),.int .u8 (0:Int),.int .u8 (0:Int),.int .u8 (0:Int)],.val (.int .i64 (3:Int))]))):=by kernel_rfl
theorem X8 [Env] (A:Nat→List SV→Prop) (Q:V→Prop) (x:Int) (c:Nat→Int):WL Tryz.prog 268 Tryz.f268 ng 0 iZ A (fun v _=>Q v) 0 [.val (.int .u64 x),.box [.int .u8 (c 0),.int .u8 (c 1),.int .u8 (c 2),.int .u8 (0:Int),.int .u8 (0:Int),.int .u8 (0:Int),.int .u8 (0:Int),.int .u8 (0:Int)],.val (.int .i64 (3:Int))]=
  (((.i64:IntKind)=.i64∧(0≤(32:Int)∧A 0 [.val (.int .u64 x),.box [.int .u8 (c 0),.int .u8 (c 1),.int .u8 (c 2),.int .u8 (IntKind.u8.wrap (x.fdiv (2^min (32:Int).toNat IntKind.u64.bits))),.int .u8 (0:Int),.int .u8 (0:Int),.int .u8 (0:Int),.int .u8 (0:Int)],.val (.int .i64 (4:Int))]))):=by kernel_rfl
theorem Ya [Env] (A:Nat→List SV→Prop) (Q:V→Prop) (x:Int) (c:Nat→Int):WL Tryz.prog 268 Tryz.f268 ng 0 iZ A (fun v _=>Q v) 0 [.val (.int .u64 x),.box [.int .u8 (c 0),.int .u8 (c 1),.int .u8 (c 2),.int .u8 (c 3),.int .u8 (0:Int),.int .u8 (0:Int),.int .u8 (0:Int),.int .u8 (0:Int)],.val (.int .i64 (4:Int))]=
  (((.i64:IntKind)=.i64∧(0≤(24:Int)∧A 0 [.val (.int .u64 x),.box [.int .u8 (c 0),.int .u8 (c 1),.int .u8 (c 2),.int .u8 (c 3),.int .u8 (IntKind.u8.wrap (x.fdiv (2^min (24:Int).toNat IntKind.u64.bits))),.int .u8 (0:Int),.int .u8 (0:Int),.int .u8 (0:Int)],.val (.int .i64 (5:Int))]))):=by kernel_rfl
theorem Yb [Env] (A:Nat→List SV→Prop) (Q:V→Prop) (x:Int) (c:Nat→Int):WL Tryz.prog 268 Tryz.f268 ng 0 iZ A (fun v _=>Q v) 0 [.val (.int .u64 x),.box [.int .u8 (c 0),.int .u8 (c 1),.int .u8 (c 2),.int .u8 (c 3),.int .u8 (c 4),.int .u8 (0:Int),.int .u8 (0:Int),.int .u8 (0:Int)],.val (.int .i64 (5:Int))]=
  (((.i64:IntKind)=.i64∧(0≤(16:Int)∧A 0 [.val (.int .u64 x),.box [.int .u8 (c 0),.int .u8 (c 1),.int .u8 (c 2),.int .u8 (c 3),.int .u8 (c 4),.int .u8 (IntKind.u8.wrap (x.fdiv (2^min (16:Int).toNat IntKind.u64.bits))),.int .u8 (0:Int),.int .u8 (0:Int)],.val (.int .i64 (6:Int))]))):=by kernel_rfl
theorem Yc [Env] (A:Nat→List SV→Prop) (Q:V→Prop) (x:Int) (c:Nat→Int):WL Tryz.prog 268 Tryz.f268 ng 0 iZ A (fun v _=>Q v) 0 [.val (.int .u64 x),.box [.int .u8 (c 0),.int .u8 (c 1),.int .u8 (c 2),.int .u8 (c 3),.int .u8 (c 4),.int .u8 (c 5),.int .u8 (0:Int),.int .u8 (0:Int)],.val (.int .i64 (6:Int))]=
  (((.i64:IntKind)=.i64∧(0≤(8:Int)∧A 0 [.val (.int .u64 x),.box [.int .u8 (c 0),.int .u8 (c 1),.int .u8 (c 2),.int .u8 (c 3),.int .u8 (c 4),.int .u8 (c 5),.int .u8 (IntKind.u8.wrap (x.fdiv (2^min (8:Int).toNat IntKind.u64.bits))),.int .u8 (0:Int)],.val (.int .i64 (7:Int))]))):=by kernel_rfl
theorem Yd [Env] (A:Nat→List SV→Prop) (Q:V→Prop) (x:Int) (c:Nat→Int):WL Tryz.prog 268 Tryz.f268 ng 0 iZ A (fun v _=>Q v) 0 [.val (.int .u64 x),.box [.int .u8 (c 0),.int .u8 (c 1),.int .u8 (c 2),.int .u8 (c 3),.int .u8 (c 4),.int .u8 (c 5),.int .u8 (c 6),.int .u8 (0:Int)],.val (.int .i64 (7:Int))]=
  (((.i64:IntKind)=.i64∧(0≤(0:Int)∧A 0 [.val (.int .u64 x),.box [.int .u8 (c 0),.int .u8 (c 1),.int .u8 (c 2),.int .u8 (c 3),.int .u8 (c 4),.int .u8 (c 5),.int .u8 (c 6),.int .u8 (IntKind.u8.wrap (x.fdiv (2^min (0:Int).toNat IntKind.u64.bits)))],.val (.int .i64 (8:Int))]))):=by kernel_rfl
theorem Ye [Env] (A:Nat→List SV→Prop) (Q:V→Prop) (x:Int) (c:Nat→Int):WL Tryz.prog 268 Tryz.f268 ng 0 iZ A (fun v _=>Q v) 0 [.val (.int .u64 x),.box [.int .u8 (c 0),.int .u8 (c 1),.int .u8 (c 2),.int .u8 (c 3),.int .u8 (c 4),.int .u8 (c 5),.int .u8 (c 6),.int .u8 (c 7)],.val (.int .i64 (8:Int))]=
  (((.i64:IntKind)=.i64∧Q (.str ([UInt8.ofNat (c 0).toNat,UInt8.ofNat (c 1).toNat,UInt8.ofNat (c 2).toNat,UInt8.ofNat (c 3).toNat,UInt8.ofNat (c 4).toNat,UInt8.ofNat (c 5).toNat,UInt8.ofNat (c 6).toNat,UInt8.ofNat (c 7).toNat])))):=by kernel_rfl
def Qm [Env] (vs:List V) (σ:St) (k:ai):Prop:=
 match vs with
 | [.int .u64 x]=>k (.str (kZ x 8)) σ
 | _=>False
def Ey [Env]:=kS 268 Qm ng
end Go.Proofs.YtbajncpfmemdgaaGreatDoor
end
section
namespace Go.Proofs.YtbajncpfmemdgaaGreatDoor
open Go Go.Ev
def lc (c:Nat→Int) (i:Nat):List UInt8:=((List.range 20).drop i).map fun j=>UInt8.ofNat (c j).toNat
def put (c:Nat→Int) (i:Nat) (x:Int):Nat→Int:=fun j=>if j=i then x else c j
def zf (i:Nat) (c:Nat→Int) (j:Nat):Int:=bif Nat.blt j i then 0 else c j
def AD (n m:Int) (c:Nat→Int) (i:Nat):List SV:=[.val (.int .i64 n),.val (.int .u64 m),.box ((List.range 20).map fun j=>.int .u8 (zf i c j)),.val (.int .i64 ((i:Nat):Int))]
def Yf (A:Nat→List SV→Prop) (n m:Int) (c:Nat→Int) (i:Nat):Prop:=
 ((.u64:IntKind)=.u64∧(10:Int)≠0)∧(((.u64:IntKind)=.u64∧(10:Int)≠0)∧A 0 (AD n (IntKind.u64.wrap (m.tdiv 10)) (put c i (IntKind.u8.wrap (IntKind.u64.wrap (48+m.tmod 10)))) i))
def agr (A:Nat→List SV→Prop) (Q:V→Prop) (n m:Int) (c:Nat→Int) (i:Nat):Prop:=
 (.i64:IntKind)=.i64∧((.u64:IntKind)=.u64∧aa (decide (m>0)) (Yf A n m c (i-1)) ((.i64:IntKind)=.i64∧aa (decide (n<0)) (Q (.str (UInt8.ofNat (45:Int).toNat::lc c i))) (Q (.str (lc c i)))))
def AE:Nat→List Nat:=(fun i=>match i with | 0=>[0,3,4] | _=>[])
theorem ags [Env] (A:Nat→List SV→Prop) (Q:V→Prop) (n:Int):WE Tryz.prog 242 Tryz.f242 Ey 0 AE A (fun v _=>Q v) [.int .i64 n] Go.Ev.start=
  (((.i64:IntKind)=.i64∧aa (decide (n<(0:Int))) (A 0 [.val (.int .i64 n),.val (.int .u64 (IntKind.u64.wrap ((0:Int)-(IntKind.u64.wrap n)))),.val (.str ([]))]) (A 0 [.val (.int .i64 n),.val (.int .u64 (IntKind.u64.wrap n)),.val (.str ([]))]))):=by kernel_rfl
theorem agt [Env] (A:Nat→List SV→Prop) (Q:V→Prop) (n m:Int) (s:List UInt8):WL Tryz.prog 242 Tryz.f242 Ey 0 AE A (fun v _=>Q v) 0 [.val (.int .i64 n),.val (.int .u64 m),.val (.str s)]=
  (((.u64:IntKind)=.u64∧aa (decide (m≥(10:Int))) ((((.u64:IntKind)=.u64∧(10:Int)≠0)∧(([UInt8.ofNat (IntKind.u8.wrap (IntKind.u64.wrap ((48:Int)+(m.tmod (10:Int))))).toNat]).length+s.length≤9223372036854775807∧(((.u64:IntKind)=.u64∧(10:Int)≠0)∧A 0 [.val (.int .i64 n),.val (.int .u64 (IntKind.u64.wrap (m.tdiv (10:Int)))),.val (.str (([UInt8.ofNat (IntKind.u8.wrap (IntKind.u64.wrap ((48:Int)+(m.tmod (10:Int))))).toNat])++s))])))) ((([UInt8.ofNat (IntKind.u8.wrap (IntKind.u64.wrap ((48:Int)+m))).toNat]).length+s.length≤9223372036854775807∧((.i64:IntKind)=.i64∧aa (decide (n<(0:Int))) ((([45]).length+(([UInt8.ofNat (IntKind.u8.wrap (IntKind.u64.wrap ((48:Int)+m))).toNat])++s).length≤9223372036854775807∧Q (.str (([45])++(([UInt8.ofNat (IntKind.u8.wrap (IntKind.u64.wrap ((48:Int)+m))).toNat])++s))))) (Q (.str (([UInt8.ofNat (IntKind.u8.wrap (IntKind.u64.wrap ((48:Int)+m))).toNat])++s)))))))):=by kernel_rfl
def Qn [Env] (vs:List V) (σ:St) (k:ai):Prop:=
 match vs with
 | [.int .i64 n]=>dL n∧k (.str (gd n)) σ
 | _=>False
def AF [Env]:=kS 242 Qn Ey
def wD:Nat→List Nat:=(fun i=>match i with | 0=>[0,3,4,5] | _=>[])
theorem agu [Env] (A:Nat→List SV→Prop) (Q:V→Prop) (n:Int):WE Tryz.prog 269 Tryz.f269 AF 0 wD A (fun v _=>Q v) [.int .i64 n] Go.Ev.start=
  (((.i64:IntKind)=.i64∧aa (decide (n<(0:Int))) (A 0 [.val (.int .i64 n),.val (.int .u64 (IntKind.u64.wrap ((0:Int)-(IntKind.u64.wrap n)))),.box [.int .u8 (0:Int),.int .u8 (0:Int),.int .u8 (0:Int),.int .u8 (0:Int),.int .u8 (0:Int),.int .u8 (0:Int),.int .u8 (0:Int),.int .u8 (0:Int),.int .u8 (0:Int),.int .u8 (0:Int),.int .u8 (0:Int),.int .u8 (0:Int),.int .u8 (0:Int),.int .u8 (0:Int),.int .u8 (0:Int),.int .u8 (0:Int),.int .u8 (0:Int),.int .u8 (0:Int),.int .u8 (0:Int),.int .u8 (0:Int)],.val (.int .i64 (20:Int))]) (A 0 [.val (.int .i64 n),.val (.int .u64 (IntKind.u64.wrap n)),.box [.int .u8 (0:Int),.int .u8 (0:Int),.int .u8 (0:Int),.int .u8 (0:Int),.int .u8 (0:Int),.int .u8 (0:Int),.int .u8 (0:Int),.int .u8 (0:Int),.int .u8 (0:Int),.int .u8 (0:Int),.int .u8 (0:Int),.int .u8 (0:Int),.int .u8 (0:Int),.int .u8 (0:Int),.int .u8 (0:Int),.int .u8 (0:Int),.int .u8 (0:Int),.int .u8 (0:Int),.int .u8 (0:Int),.int .u8 (0:Int)],.val (.int .i64 (20:Int))]))):=by kernel_rfl
theorem agv [Env] (A:Nat→List SV→Prop) (Q:V→Prop) (n m:Int) (c:Nat→Int):∀i:Nat,1≤i→i<20→WL Tryz.prog 269 Tryz.f269 AF 0 wD A (fun v _=>Q v) 0 (AD n m c i)=agr A Q n m c i
 | 0,h,_=>absurd h (by decide)
 | 1,_,_=>by kernel_rfl
 | 2,_,_=>by kernel_rfl
 | 3,_,_=>by kernel_rfl
 | 4,_,_=>by kernel_rfl
 | 5,_,_=>by kernel_rfl
 | 6,_,_=>by kernel_rfl
 | 7,_,_=>by kernel_rfl
 | 8,_,_=>by kernel_rfl
 | 9,_,_=>by kernel_rfl
 | 10,_,_=>by kernel_rfl
 | 11,_,_=>by kernel_rfl
 | 12,_,_=>by kernel_rfl
 | 13,_,_=>by kernel_rfl
 | 14,_,_=>by kernel_rfl
 | 15,_,_=>by kernel_rfl
 | 16,_,_=>by kernel_rfl
 | 17,_,_=>by kernel_rfl
 | 18,_,_=>by kernel_rfl
 | 19,_,_=>by kernel_rfl
 | _+20,_,h=>absurd h (by omega)
theorem U0 [Env] (A:Nat→List SV→Prop) (Q:V→Prop) (n m:Int) (c:Nat→Int):WL Tryz.prog 269 Tryz.f269 AF 0 wD A (fun v _=>Q v) 0 (AD n m c 20)=((.i64:IntKind)=.i64∧Yf A n m c 19):=by kernel_rfl
def Qo [Env] (vs:List V) (σ:St) (k:ai):Prop:=
 match vs with
 | [.int .i64 n]=>dL n∧k (.str (gd n)) σ
 | _=>False
def Ez [Env]:=kS 269 Qo AF
end Go.Proofs.YtbajncpfmemdgaaGreatDoor
end
