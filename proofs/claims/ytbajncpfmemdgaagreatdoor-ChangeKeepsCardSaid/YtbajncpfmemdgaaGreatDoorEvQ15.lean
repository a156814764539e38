/- Proved: parts of the way: BP7, BP8, BP9, BP10, BEq4, BEq5, BEq6, BP11, BP12, BP13, BP14, BEq7, BEq8, BP15, Awk13T0, Awk13T1, Awk13Run, BP16, BEq9. -/
import Derived.Test.YtbajncpfmemdgaaGreatDoorEvQ14
import Derived.Test.YtbajncpfmemdgaaGreatDoorProg
import Derived.Test.YtbajncpfmemdgaaGreatDoorEvQ10
import Derived.ProofKit
set_option linter.unusedVariables false
set_option linter.unusedSimpArgs false
section
namespace Go.Proofs.YtbajncpfmemdgaaGreatDoor
open Go Go.Ev Go.IntWalk
section
variable [Env] {vs:List V} {σ:St} {k:ah}
theorem qZ {n:Nat} {h:Nat→List UInt8} {l:List SV} (hl:∀u∈l,u.clean):∀u∈SV.val (V.arr n (fun i=>V.str (h i)) 1 false false)::l,u.clean:=aw (mD n h) hl
def aao (s:List UInt8) (n:Nat) (q:Nat→List UInt8):Nat→List SV→Prop
 | 0,ss=>∃i:Nat,i≤n∧ss=[.val (.str s),.val (.int .i64 (j7 s q i)),.val (V.arr n (fun i=>V.str (q i)) 1 false false),.val (.int .i64 ((n:Nat):Int)),.val (.int .i64 i)]
 | _,_=>False
theorem P4 (h:Mo vs σ k):ag Tryz.prog 222 vs k σ:=by
 unfold Mo at h
 split at h
 ·rename_i s n f
  obtain⟨q,rfl,hn,h⟩:=h
  refine ag.eG (aA (Go.Ev.Clean.str _) (aA (mD n q) bm)) (.int _ _) ?_ h
  refine F222.cx (live:=zw) (call:=Kr) (n₀:=0) (σ:=Go.Ev.start) (fun h=>KE h) rfl 1 (by kernel_rfl) Nat.lt_wfRel.wf (fun _ ss=>n-cu ss) (aao s n q) ?_ ?_ ?_
  ·intro k ss hI
   cases k with
   | zero=>obtain⟨i,_,rfl⟩:=hI;exact nw (aE (qZ (aE (aE bM))))
   | succ k=>exact hI.elim
  ·rw[Z6]
   exact⟨0,by omega,rfl⟩
  ·intro k hk ss hI
   obtain rfl:k=0:=by omega
   obtain⟨i,hi,rfl⟩:=hI
   have hc:=zB s q i
   rw[Z7]
   refine⟨rfl,av (fun h1=>⟨⟨by omega,by omega⟩,av (fun h2=>?_) fun h2=>?_⟩) fun h1=>?_⟩
   ·rw[dU] at h2
    rw[i64_in ((i:Int)+1) (by omega),i64_in (j7 s q i+1) (by omega)]
    refine⟨⟨i+1,by omega,?_⟩,?_⟩
    ·show _=[_,SV.val (.int .i64 (j7 s q i+if q i=s then 1 else 0)),_,_,_]
     rw[if_pos h2];rfl
    ·show n-((i:Int)+1).toNat<n-(i:Int).toNat
     omega
   ·rw[dU] at h2
    rw[i64_in ((i:Int)+1) (by omega)]
    refine⟨⟨i+1,by omega,?_⟩,?_⟩
    ·show _=[_,SV.val (.int .i64 (j7 s q i+if q i=s then 1 else 0)),_,_,_]
     rw[if_neg h2,Int.add_zero];rfl
    ·show n-((i:Int)+1).toNat<n-(i:Int).toNat
     omega
   ·obtain rfl:i=n:=by omega
    rfl
 ·exact h.elim
theorem KG:∀ {f:FuncId} {vs:List V} {σ:St} {k:ah},Ks f vs σ k→ag Tryz.prog f vs k σ:=fun h=>aP P4 KE h
def aap (n:Nat) (q:Nat→List UInt8):Nat→List SV→Prop
 | 0,ss=>∃i:Nat,i≤n∧(∀j,j<i→j7 (q j) q n≤1)∧ss=[.val (V.arr n (fun i=>V.str (q i)) 1 false false),.val (V.arr n (fun i=>V.str (q i)) 1 false false),.val (.int .i64 ((n:Nat):Int)),.val (.int .i64 i)]
 | _,_=>False
theorem P5 (h:Mp vs σ k):ag Tryz.prog 178 vs k σ:=by
 unfold Mp at h
 split at h
 ·rename_i n f
  obtain⟨q,rfl,hn,h⟩:=h
  refine ag.eG (aA (mD n q) bm) (.bool _) ?_ h
  refine F178.cx (live:=zx) (call:=Ks) (n₀:=0) (σ:=Go.Ev.start) (fun h=>KG h) rfl 1 (by kernel_rfl) Nat.lt_wfRel.wf (fun _ ss=>n-cu ss) (aap n q) ?_ ?_ ?_
  ·intro k ss hI
   cases k with
   | zero=>obtain⟨i,_,_,rfl⟩:=hI;exact qZ (qZ (aE (aE bM)))
   | succ k=>exact hI.elim
  ·rw[Z8]
   exact⟨0,by omega,fun j hj=>absurd hj (Nat.not_lt_zero j),rfl⟩
  ·intro k hk ss hI
   obtain rfl:k=0:=by omega
   obtain⟨i,hi,hj,rfl⟩:=hI
   rw[Z9]
   refine⟨rfl,av (fun h1=>⟨⟨by omega,by omega⟩,q,rfl,hn,rfl,av (fun h2=>?_) fun h2=>?_⟩) fun h1=>?_⟩
   ·rw[dU] at h2
    have:gX q n=false:=by
     cases hu:gX q n with
     | false=>rfl
     | true=>
      obtain⟨a,b,Cq,hb,e1,e2⟩:=(xb (q i) q n).1 h2
      exact absurd (e1.trans e2.symm) ((pI q n).1 hu a b Cq hb)
    rw[this]
   ·rw[dU] at h2
    rw[i64_in ((i:Int)+1) (by omega)]
    refine⟨⟨i+1,by omega,fun j iY=>?_,rfl⟩,?_⟩
    ·by_cases e:j=i
     ·rw[e];omega
     ·exact hj j (by omega)
    ·show n-((i:Int)+1).toNat<n-(i:Int).toNat
     omega
   ·obtain rfl:i=n:=by omega
    have:gX q i=true:=(pI q i).2 fun a b Cq hb e=>by
     have:=hj b hb
     have:=(xb (q b) q i).2 ⟨a,b,Cq,hb,e,rfl⟩
     omega
    rw[this]
 ·exact h.elim
theorem E8:∀ {f:FuncId} {vs:List V} {σ:St} {k:ah},CJ f vs σ k→ag Tryz.prog f vs k σ:=fun h=>aP P5 KG h
def I42 (s:List UInt8) (n:Nat) (q:Nat→List UInt8):Nat→List SV→Prop
 | 0,ss=>∃i:Nat,i≤n∧(∀j,j<i→q j≠s)∧ss=[.val (V.arr n (fun i=>V.str (q i)) 1 false false),.val (.str s),.val (.int .i64 i)]
 | _,_=>False
theorem SY (h:SI vs σ k):ag Tryz.prog 42 vs k σ:=by
 unfold SI at h
 split at h
 ·rename_i n f s
  obtain⟨q,rfl,hn,h⟩:=h
  refine ag.eG (aA (mD n q) (aA (Go.Ev.Clean.str _) bm)) (.int _ _) ?_ h
  refine F42.cx (live:=CK) (call:=CJ) (n₀:=0) (σ:=Go.Ev.start) (fun h=>E8 h) rfl 1 (by kernel_rfl) Nat.lt_wfRel.wf (fun _ ss=>n-cu ss) (I42 s n q) ?_ ?_ ?_
  ·intro k ss hI
   cases k with
   | zero=>obtain⟨i,_,_,rfl⟩:=hI;exact qZ (nw (aE bM))
   | succ k=>exact hI.elim
  ·rw[e42]
   exact⟨0,by omega,fun j hj=>absurd hj (Nat.not_lt_zero j),rfl⟩
  ·intro k hk ss hI
   obtain rfl:k=0:=by omega
   obtain⟨i,hi,hj,rfl⟩:=hI
   rw[r42]
   refine⟨rfl,av (fun h1=>⟨⟨by omega,by omega⟩,av (fun h2=>?_) fun h2=>?_⟩) fun h1=>?_⟩
   ·rw[dU] at h2
    rw[lW s q n i (by omega) h2 hj]
   ·rw[dU] at h2
    rw[i64_in ((i:Int)+1) (by omega)]
    refine⟨⟨i+1,by omega,fun j iY=>?_,rfl⟩,?_⟩
    ·by_cases e:j=i
     ·rw[e];exact h2
     ·exact hj j (by omega)
    ·show n-((i:Int)+1).toNat<n-(i:Int).toNat
     omega
   ·obtain rfl:i=n:=by omega
    rw[iT s q i hj]
 ·exact h.elim
theorem E9:∀ {f:FuncId} {vs:List V} {σ:St} {k:ah},CL f vs σ k→ag Tryz.prog f vs k σ:=fun h=>aP SY E8 h
end
end Go.Proofs.YtbajncpfmemdgaaGreatDoor
end
section
namespace Go.Proofs.YtbajncpfmemdgaaGreatDoor
open Go Go.Ev Go.IntWalk
theorem F179:bU Tryz.prog 179 Tryz.f179:=.of (by kernel_rfl) (by kernel_rfl)
theorem F181:bU Tryz.prog 181 Tryz.f181:=.of (by kernel_rfl) (by kernel_rfl)
theorem F223:bU Tryz.prog 223 Tryz.f223:=.of (by kernel_rfl) (by kernel_rfl)
theorem F180:bU Tryz.prog 180 Tryz.f180:=.of (by kernel_rfl) (by kernel_rfl)
theorem F177:bU Tryz.prog 177 Tryz.f177:=.of (by kernel_rfl) (by kernel_rfl)
theorem F134:bU Tryz.prog 134 Tryz.f134:=.of (by kernel_rfl) (by kernel_rfl)
theorem F81:bU Tryz.prog 81 Tryz.f81:=.of (by kernel_rfl) (by kernel_rfl)
section
theorem vo (f:Nat→V) (i:Nat) (v:V):fq f i v i=v:=by
 show(Bool.rec (f i) v (Nat.beq i i):V)=v
 rw[Nat.beq_refl]
theorem vp (f:Nat→V) {i j:Nat} (v:V) (h:j≠i):fq f i v j=f j:=by
 show(Bool.rec (f j) v (Nat.beq j i):V)=f j
 have:Nat.beq j i=false:=by
  cases hb:Nat.beq j i with
  | false=>rfl
  | true=>exact absurd (Nat.eq_of_beq_eq_true hb) h
 rw[this]
theorem Fa {n j:Nat} (f g:Nat→V) (h:j<n):dY n f g j=f j:=by
 show(Bool.rec (g (Nat.sub j n)) (f j) (Nat.blt j n):V)=f j
 have:Nat.blt j n=true:=Nat.ble_eq_true_of_le h
 rw[this]
theorem Fb (n:Nat) (f g:Nat→V):dY n f g n=g 0:=by
 show(Bool.rec (g (Nat.sub n n)) (f n) (Nat.blt n n):V)=g 0
 have:Nat.blt n n=false:=by
  cases hb:Nat.blt n n with
  | false=>rfl
  | true=>exact absurd (Nat.le_of_ble_eq_true hb) (Nat.not_succ_le_self n)
 rw[this]
 exact congrArg g (Nat.sub_self n)
variable [Env] {vs:List V} {σ:St} {k:ah}
theorem vq (n:Nat) (q:Nat→aj):Go.Ev.Clean (V.arr n (fun i=>aj.enc (q i)) 7 false false):=
 Go.Ev.Clean.arr fun i _ u hu=>(q i).clean u hu
theorem Fc {n:Nat} {q:Nat→aj} {l:List SV} (hl:∀u∈l,u.clean):∀u∈SV.val (V.arr n (fun i=>aj.enc (q i)) 7 false false)::l,u.clean:=aw (vq n q) hl
theorem SZ {n:Nat} {f:Nat→V} {l:List SV} (h:∀i,i<n→∃t,(f i).cells=[V.str t]) (hl:∀u∈l,u.clean):∀u∈SV.row n f 1::l,u.clean:=aw (fun i hi u hu=>by
 obtain⟨t,ht⟩:=h i hi
 rw[ht,List.mem_singleton] at hu
 subst hu;exact Go.Ev.Clean.str _) hl
theorem MA {n:Nat} {f:Nat→V} {q:Nat→aj} {b:Nat} {τ:St} {p:Bool} (hb:τ.heap.get b=some (.row n f 1 p)) (h:∀i,i<n→(f i).cells=[V.str (q i).f0]):dQ τ (.own b n 1) (.arr n (fun i=>V.str (q i).f0) 1 false false):=
 .own hb (fun i hi=>by rw[h i hi];exact .cons (.str _) .nil) fun _ _=>rfl
def aaq (n:Nat) (q:Nat→aj):Nat→List SV→Prop
 | 0,ss=>∃(i:Nat) (f:Nat→V),i≤n∧(∀j,j<n→∃t,(f j).cells=[V.str t])∧(∀j,j<i→(f j).cells=[V.str (q j).f0])∧ss=[.row n f 1,.val (V.arr n (fun i=>aj.enc (q i)) 7 false false),.val (.int .i64 ((n:Nat):Int)),.val (.int .i64 i)]
 | _,_=>False
theorem P6 (h:Mq vs σ k):ag Tryz.prog 179 vs k σ:=by
 unfold Mq at h
 split at h
 ·rename_i n f
  obtain⟨q,rfl,hn,h⟩:=h
  refine(ag.Bn (Q:=fun u=>u=.arr n (fun i=>V.str (q i).f0) 1 false false) (ax (vq n q) cz) ?_).mono fun v τ ⟨h1,h2⟩=>by subst h1;subst h2;exact h
  refine F179.cx (live:=zy) (call:=CL) (n₀:=0) (σ:=Go.Ev.start) (fun h=>E9 h) rfl 1 (by kernel_rfl) Nat.lt_wfRel.wf (fun _ ss=>n-cu ss) (aaq n q) ?_ ?_ ?_
  ·intro k ss hI
   cases k with
   | zero=>obtain⟨i,f,_,hf,_,rfl⟩:=hI;exact SZ hf (Fc (aE (aE bM)))
   | succ k=>exact hI.elim
  ·rw[aaa]
   simp only[Int.toNat_natCast]
   exact⟨⟨by omega,by omega,by omega,by omega⟩,⟨Nat.le_refl _,trivial⟩,0,_,by omega,fun j _=>⟨[],rfl⟩,fun j hj=>absurd hj (Nat.not_lt_zero j),rfl⟩
  ·intro k hk ss hI
   obtain rfl:k=0:=by omega
   obtain⟨i,f,hi,hf,hj,rfl⟩:=hI
   rw[aab]
   refine⟨rfl,av (fun h1=>⟨⟨by omega,by omega⟩,⟨by omega,by omega⟩,by rw[dU];omega,⟨rfl,rfl⟩,?_⟩) fun h1=>?_⟩
   ·rw[dU,i64_in ((i:Int)+1) (by omega)]
    refine⟨⟨i+1,_,by omega,fun j S0=>?_,fun j iY=>?_,rfl⟩,?_⟩
    ·by_cases e:j=i
     ·subst e;exact⟨_,by rw[vo];rfl⟩
     ·rw[vp _ _ e];exact hf j S0
    ·by_cases e:j=i
     ·subst e;rw[vo];rfl
     ·rw[vp _ _ e];exact hj j (by omega)
    ·show n-((i:Int)+1).toNat<n-(i:Int).toNat
     omega
   ·obtain rfl:i=n:=by omega
    refine⟨_,MA (p:=false) ?_ hj,rfl⟩
    show(St.new Go.Ev.start 0 (.row i f 1 false)).heap.get 0=_
    rw[ie,if_pos rfl]
 ·exact h.elim
theorem Fe:∀ {f:FuncId} {vs:List V} {σ:St} {k:ah},HZ f vs σ k→ag Tryz.prog f vs k σ:=fun h=>aP P6 E9 h
theorem P7 (h:Mr vs σ k):ag Tryz.prog 181 vs k σ:=by
 unfold Mr at h
 obtain⟨⟨e,rfl⟩,h⟩:=h
 have h:k (.bool e.f2) σ:=h
 refine ag.eG (aA e.aG bm) (.bool _) (F181.flat (live:=EY) (call:=HZ) (n₀:=0) (σ:=Go.Ev.start) (fun h=>Fe h) rfl (by kernel_rfl) ?_) h
 rw[aac]
theorem Ff:∀ {f:FuncId} {vs:List V} {σ:St} {k:ah},CM f vs σ k→ag Tryz.prog f vs k σ:=fun h=>aP P7 Fe h
omit [Env] in
theorem mZ (q:Nat→aj):∀n,eS q n=true↔∃i,i<n∧(q i).f2=true
 | 0=>⟨fun h=>(by cases h),fun⟨i,hi,_⟩=>absurd hi (Nat.not_lt_zero i)⟩
 | n+1=>by
  show(eS q n||(q n).f2)=true↔_
  rw[Bool.or_eq_true,mZ q n]
  constructor
  ·rintro(⟨i,hi,e⟩ | e)
   ·exact⟨i,by omega,e⟩
   ·exact⟨n,by omega,e⟩
  ·rintro⟨i,hi,e⟩
   by_cases dy:i=n
   ·subst dy;exact .inr e
   ·exact .inl ⟨i,by omega,e⟩
def aar (n:Nat) (q:Nat→aj):Nat→List SV→Prop
 | 0,ss=>∃i:Nat,i≤n∧(∀j,j<i→(q j).f2=false)∧ss=[.val (V.arr n (fun i=>aj.enc (q i)) 7 false false),.val (.func (.func 181) [] []),.val (.int .i64 ((n:Nat):Int)),.val (.int .i64 i)]
 | _,_=>False
def aas (n:Nat) (q:Nat→aj) (v:V):Prop:=∃c:Int,(0≤c↔eS q n=true)∧v=.int .i64 c
theorem P8 (h:Ms vs σ k):ag Tryz.prog 223 vs k σ:=by
 unfold Ms at h
 split at h
 ·rename_i n f
  obtain⟨q,rfl,hn,h⟩:=h
  refine ag.aT (A:=aas n q) (aA (vq n q) (aA (Go.Ev.Clean.func 181) bm)) (fun v hv=>by obtain⟨c,_,rfl⟩:=hv;exact .int _ _)
   (F223.cx (live:=zz) (call:=CM) (n₀:=0) (σ:=Go.Ev.start) (fun h=>Ff h) rfl 1 (by kernel_rfl) Nat.lt_wfRel.wf (fun _ ss=>n-cu ss) (aar n q) ?_ ?_ ?_) fun v hv=>by obtain⟨c,hc,rfl⟩:=hv;exact h c hc
  ·intro k ss hI
   cases k with
   | zero=>obtain⟨i,_,_,rfl⟩:=hI;exact Fc (aw (Go.Ev.Clean.func 181) (aE (aE bM)))
   | succ k=>exact hI.elim
  ·rw[aad]
   exact⟨0,by omega,fun j hj=>absurd hj (Nat.not_lt_zero j),rfl⟩
  ·intro k hk ss hI
   obtain rfl:k=0:=by omega
   obtain⟨i,hi,hj,rfl⟩:=hI
   rw[aae]
   refine⟨rfl,av (fun h1=>⟨⟨by omega,by omega⟩,⟨_,rfl⟩,af.mk (fun h2=>?_) fun h2=>?_⟩) fun h1=>?_⟩
   ·rw[dU] at h2
    exact⟨i,⟨fun _=>(mZ q n).2 ⟨i,by omega,h2⟩,fun _=>by omega⟩,rfl⟩
   ·rw[dU] at h2
    rw[i64_in ((i:Int)+1) (by omega)]
    refine⟨⟨i+1,by omega,fun j iY=>?_,rfl⟩,?_⟩
    ·by_cases e:j=i
     ·subst e;exact h2
     ·exact hj j (by omega)
    ·show n-((i:Int)+1).toNat<n-(i:Int).toNat
     omega
   ·obtain rfl:i=n:=by omega
    refine⟨-1,⟨fun h=>by omega,fun h=>?_⟩,rfl⟩
    obtain⟨j,S0,e⟩:=(mZ q i).1 h
    rw[hj j S0] at e;cases e
 ·exact h.elim
theorem Fg:∀ {f:FuncId} {vs:List V} {σ:St} {k:ah},H0 f vs σ k→ag Tryz.prog f vs k σ:=fun h=>aP P8 Ff h
theorem P9 (h:Mt vs σ k):ag Tryz.prog 180 vs k σ:=by
 unfold Mt at h
 split at h
 ·rename_i n f
  obtain⟨q,rfl,hn,h⟩:=h
  refine ag.eG (aA (vq n q) (aA (Go.Ev.Clean.func 181) bm)) (.bool _) (F180.flat (live:=EZ) (call:=H0) (n₀:=0) (σ:=Go.Ev.start) (fun h=>Fg h) rfl (by kernel_rfl) ?_) h
  rw[aaf]
  refine⟨q,rfl,hn,fun c hc=>⟨rfl,av (fun h1=>?_) fun h1=>?_⟩⟩
  ·rw[hc.1 h1]
  ·have:eS q n=false:=by
    cases hb:eS q n with
    | false=>rfl
    | true=>exact absurd (hc.2 hb) h1
   rw[this]
 ·exact h.elim
theorem Fh:∀ {f:FuncId} {vs:List V} {σ:St} {k:ah},H2 f vs σ k→ag Tryz.prog f vs k σ:=fun h=>aP P9 Fg h
end
end Go.Proofs.YtbajncpfmemdgaaGreatDoor
end
section
namespace Go.Proofs.YtbajncpfmemdgaaGreatDoor
open Go Go.Ev Go.IntWalk
section
theorem ca (f:Nat→Int):∀n,c9 f n=0↔∀i,i<n→f i=0
 | 0=>⟨fun _ i hi=>absurd hi (Nat.not_lt_zero i),fun _=>rfl⟩
 | n+1=>by
  show(if c9 f n≠0 then c9 f n else f n)=0↔_
  have ih:=ca f n
  by_cases h:c9 f n=0
  ·rw[if_neg (by rw[h];exact fun h=>h rfl)]
   constructor
   ·intro e i hi
    by_cases dy:i=n
    ·rw[dy];exact e
    ·exact ih.1 h i (by omega)
   ·exact fun hh=>hh n (by omega)
  ·rw[if_pos h]
   exact⟨fun e=>absurd e h,fun hh=>absurd (ih.2 fun i hi=>hh i (by omega)) h⟩
theorem jK (f:Nat→Int):∀n i,i<n→f i≠0→(∀j,j<i→f j=0)→c9 f n=f i
 | 0,i,hi,_,_=>absurd hi (Nat.not_lt_zero i)
 | n+1,i,hi,bQ,hl=>by
  show(if c9 f n≠0 then c9 f n else f n)=f i
  by_cases e:i=n
  ·subst e
   rw[if_neg (by rw[(ca f i).2 hl];exact fun h=>h rfl)]
  ·have:=jK f n i (by omega) bQ hl
   rw[this,if_pos bQ]
theorem ba {α:Type} [Inhabited α] {l:List α} {i:Nat} (h:i<l.length):l.getD i default∈l:=by
 rw[List.getD_eq_getElem?_getD,List.getElem?_eq_getElem h]
 exact List.getElem_mem h
variable [Env] {vs:List V} {σ:St} {k:ah}
theorem S1 (e:aa):Go.Ev.Clean (ae aj.enc 7 e.f2):=e.clean _ (List.mem_cons_of_mem _ (List.mem_cons_of_mem _ List.mem_cons_self))
theorem S2 (e:aa) {l:List SV} (hl:∀u∈l,u.clean):∀u∈SV.box [.str e.f0,.int .i64 e.f1,ae aj.enc 7 e.f2]::l,u.clean:=aw e.clean hl
def qj (n:Int) (v:V):Prop:=(n=0∧v=.aV)∨(n≠0∧v=.iface 216 (.agg [.int .i64 n]))
theorem qj.gb (n:Int):∀v,qj n v→dG v:=fun v hv=>by
 rcases hv with ⟨_,rfl⟩ | ⟨_,rfl⟩
 ·exact .aV
 ·exact .iface (.agg (bX (.int _ _) ik))
omit [Env] in
theorem qj.bad {n x:Int} (h:n=x) (hx:x≠0):qj n (.iface 216 (.agg [.int .i64 x])):=.inr ⟨by rw[h];exact hx,by rw[h]⟩
omit [Env] in
theorem qj.CO {n:Int} (h:n=0):qj n .aV:=.inl ⟨h,rfl⟩
theorem Qa (h:Mu vs σ k):ag Tryz.prog 177 vs k σ:=by
 unfold Mu at h
 obtain⟨e,rfl,dD,h⟩:=h
 refine ag.aT (A:=qj (bR e)) (aA e.aG bm) (qj.gb _) (F177.flat (live:=E0) (call:=H2) (n₀:=0) (σ:=Go.Ev.start) (fun h=>Fh h) rfl (by kernel_rfl) ?_) fun v hv=>by
  rcases hv with ⟨h1,rfl⟩ | ⟨h1,rfl⟩
  ·exact h.1 h1
  ·exact h.2 h1
 rw[aag]
 have hu:bR e=if aD e.f0≠0 then aD e.f0 else if e.f1<1∨e.f1>5 then 5 else if bZ e.f3≠0 then bZ e.f3 else if e.f3.f0≠0∧e.f3.f0≠e.f1 then 11 else 0:=rfl
 refine⟨rfl,av (fun h1=>?_) fun h1=>⟨rfl,av (fun h2=>?_) fun h2=>⟨rfl,av (fun h3=>?_) fun h3=>⟨dD,rfl,av (fun h4=>?_) fun h4=>⟨rfl,av (fun h5=>⟨rfl,av (fun h6=>?_) fun h6=>?_⟩) fun h5=>?_⟩⟩⟩⟩⟩
 ·exact .bad (by rw[hu,if_pos h1]) h1
 ·exact .bad (by rw[hu,if_neg h1,if_pos (.inl h2)]) (by decide)
 ·exact .bad (by rw[hu,if_neg h1,if_pos (.inr h3)]) (by decide)
 ·exact .bad (by rw[hu,if_neg h1,if_neg (by omega),if_pos h4]) h4
 ·exact .bad (by rw[hu,if_neg h1,if_neg (by omega),if_neg h4,if_pos ⟨h5,h6⟩]) (by decide)
 ·exact .CO (by rw[hu,if_neg h1,if_neg (by omega),if_neg h4,if_neg fun hh=>h6 hh.2])
 ·exact .CO (by rw[hu,if_neg h1,if_neg (by omega),if_neg h4,if_neg fun hh=>h5 hh.1])
theorem Fi:∀ {f:FuncId} {vs:List V} {σ:St} {k:ah},CN f vs σ k→ag Tryz.prog f vs k σ:=fun h=>aP Qa Fh h
def fU (e:aa) (i:Nat):aj:=e.f2.getD i default
omit [Env] in
theorem xc (e:aa):bu e=if aD e.f0≠0 then aD e.f0 else if e.f2.length<1∨e.f2.length>8 then 2 else if e.f1<1∨e.f1>3∨e.f1>e.f2.length then 1
 else if c9 (fun i=>bR (fU e i)) e.f2.length≠0 then c9 (fun i=>bR (fU e i)) e.f2.length
 else if gX (fun i=>(fU e i).f0) e.f2.length=false then 12 else if eS (fU e) e.f1.toNat=true then 11 else 0:=rfl
def vr (e:aa):Prop:=aD e.f0=0∧(1≤e.f2.length∧e.f2.length≤8)∧1≤e.f1∧e.f1≤3∧e.f1≤e.f2.length
omit [Env] in
theorem vr.err {e:aa} (h:vr e):bu e=if c9 (fun i=>bR (fU e i)) e.f2.length≠0 then c9 (fun i=>bR (fU e i)) e.f2.length
 else if gX (fun i=>(fU e i).f0) e.f2.length=false then 12 else if eS (fU e) e.f1.toNat=true then 11 else 0:=by
 obtain⟨h1,⟨h2,h3⟩,h4,h5,h6⟩:=h
 rw[xc,if_neg (fun h=>h h1),if_neg (by omega),if_neg (by omega)]
def aat (e:aa):Nat→List SV→Prop
 | 0,ss=>vr e∧∃i:Nat,i≤e.f2.length∧(∀j,j<i→bR (fU e j)=0)∧ss=[.box [.str e.f0,.int .i64 e.f1,ae aj.enc 7 e.f2],.val (ae aj.enc 7 e.f2),.val (.int .i64 ((e.f2.length:Nat):Int)),.val (.int .i64 i)]
 | _,_=>False
theorem Qb (h:Mv vs σ k):ag Tryz.prog 134 vs k σ:=by
 unfold Mv at h
 obtain⟨e,rfl,dD,h⟩:=h
 refine ag.aT (A:=qj (bu e)) (aA e.aG bm) (qj.gb _) (F134.cx (live:=zA) (call:=CN) (n₀:=0) (σ:=Go.Ev.start) (fun h=>Fi h) rfl 1 (by kernel_rfl) Nat.lt_wfRel.wf (fun _ ss=>e.f2.length-cu ss) (aat e) ?_ ?_ ?_) fun v hv=>by
  rcases hv with ⟨h1,rfl⟩ | ⟨h1,rfl⟩
  ·exact h.1 h1
  ·exact h.2 h1
 ·intro k ss hI
  cases k with
  | zero=>obtain⟨_,i,_,_,rfl⟩:=hI;exact S2 e (aw (S1 e) (aE (aE bM)))
  | succ k=>exact hI.elim
 ·rw[aah]
  refine⟨rfl,av (fun h1=>?_) fun h1=>⟨rfl,av (fun h2=>?_) fun h2=>⟨rfl,av (fun h3=>?_) fun h3=>⟨rfl,av (fun h4=>?_) fun h4=>⟨rfl,av (fun h5=>?_) fun h5=>?_⟩⟩⟩⟩⟩
  ·exact .bad (by rw[xc,if_pos h1]) h1
  ·exact .bad (by rw[xc,if_neg h1,if_pos (by omega)]) (by decide)
  ·exact .bad (by rw[xc,if_neg h1,if_pos (by omega)]) (by decide)
  ·exact .bad (by rw[xc,if_neg h1,if_neg (by omega),if_pos (.inl h4)]) (by decide)
  ·refine .bad ?_ (by decide)
   rw[xc,if_neg h1,if_neg (by omega),if_pos]
   split at h5<;>omega
  ·have:e.f1≤3∧e.f1≤e.f2.length:=by split at h5<;>omega
   exact⟨⟨Decidable.not_not.1 h1,⟨by omega,by omega⟩,by omega,this.1,this.2⟩,0,by omega,fun j hj=>absurd hj (Nat.not_lt_zero j),rfl⟩
 ·intro k hk ss hI
  obtain rfl:k=0:=by omega
  obtain⟨ht,i,hi,hj,rfl⟩:=hI
  have hlen:=ht.2.1
  rw[aai]
  refine⟨rfl,av (fun h1=>⟨⟨by omega,by omega⟩,fU e i,rfl,dD _ (ba (by omega)),fun h2=>?_,fun h2=>?_⟩) fun h1=>?_⟩
  ·rw[i64_in ((i:Int)+1) (by omega)]
   refine⟨⟨ht,i+1,by omega,fun j iY=>?_,rfl⟩,?_⟩
   ·by_cases e:j=i
    ·rw[e];exact h2
    ·exact hj j (by omega)
   ·show e.f2.length-((i:Int)+1).toNat<e.f2.length-(i:Int).toNat
    omega
  ·have hf:=jK (fun i=>bR (fU e i)) e.f2.length i (by omega) h2 hj
   refine .bad ?_ h2
   rw[ht.err,hf,if_pos h2]
  ·obtain rfl:i=e.f2.length:=by omega
   have hf:=(ca (fun i=>bR (fU e i)) e.f2.length).2 hj
   refine⟨fU e,rfl,by omega,_,rfl,by omega,af.mk (fun h2=>?_) fun h2=>⟨⟨by omega,by have:=ht.2.2;omega,by have:=ht.2.2;omega,by omega⟩,fU e,?_,?_,af.mk (fun h3=>?_) fun h3=>?_⟩⟩
   ·refine .bad ?_ (by decide)
    have h2:gX (fun i=>(fU e i).f0) e.f2.length=false:=by simpa using h2
    rw[ht.err,if_neg (fun h=>h hf),if_pos h2]
   ·funext i
    show aj.enc (e.f2.getD (Nat.add 0 i) default)=_
    rw[show Nat.add 0 i=i from Nat.zero_add i];rfl
   ·have:=ht.2.2;omega
   ·have h2:gX (fun i=>(fU e i).f0) e.f2.length=true:=by simpa using h2
    have h3:eS (fU e) e.f1.toNat=true:=h3
    refine .bad ?_ (by decide)
    rw[ht.err,if_neg (fun h=>h hf),if_neg (by rw[h2];decide),if_pos h3]
   ·have h2:gX (fun i=>(fU e i).f0) e.f2.length=true:=by simpa using h2
    refine .CO ?_
    have h3:eS (fU e) e.f1.toNat=false:=h3
    rw[ht.err,if_neg (fun h=>h hf),if_neg (by rw[h2];decide),if_neg (by rw[h3];decide)]
theorem Qc:∀ {f:FuncId} {vs:List V} {σ:St} {k:ah},SJ f vs σ k→ag Tryz.prog f vs k σ:=fun h=>aP Qb Fi h
variable [aC]
theorem Qd (h:Mw vs σ k):ag Tryz.prog 133 vs k σ:=by
 unfold Mw at h
 split at h
 ·exact Me.mono fun v τ ⟨h1,h2⟩=>by subst h1;subst h2;exact h
 ·exact Mf.mono fun v τ ⟨h1,h2⟩=>by subst h1;subst h2;exact h
 ·exact h.elim
theorem Fj:∀ {f:FuncId} {vs:List V} {σ:St} {k:ah},H3 f vs σ k→ag Tryz.prog f vs k σ:=fun h=>aP Qd Qc h
theorem S3 (h:SK vs σ k):ag Tryz.prog 81 vs k σ:=by
 unfold SK at h
 obtain⟨e,rfl,dD,h⟩:=h
 refine ag.eG (aA e.aG bm) (.int _ _) (F81.flat (live:=Kt) (call:=H3) (n₀:=0) (σ:=Go.Ev.start) (fun h=>Fj h) rfl (by kernel_rfl) ?_) h
 rw[e81]
 exact⟨e,rfl,dD,fun h1=>by rw[h1],fun _=>rfl⟩
theorem Fk:∀ {f:FuncId} {vs:List V} {σ:St} {k:ah},H4 f vs σ k→ag Tryz.prog f vs k σ:=fun h=>aP S3 Fj h
end
end Go.Proofs.YtbajncpfmemdgaaGreatDoor
end
section
namespace Go.Proofs.YtbajncpfmemdgaaGreatDoor
open Go Go.Ev Go.IntWalk
theorem lX {e:aa} (h:bu e=0):vr e∧∀i,i<e.f2.length→bR (fU e i)=0:=by
 have h':=h
 rw[xc] at h
 split at h
 ·omega
 rename_i h1
 split at h
 ·omega
 rename_i h2
 split at h
 ·omega
 rename_i h3
 have ht:vr e:=⟨Decidable.not_not.1 h1,⟨by omega,by omega⟩,by omega,by omega,by omega⟩
 refine⟨ht,?_⟩
 split at h
 ·omega
 rename_i h4
 exact(ca (fun i=>bR (fU e i)) e.f2.length).1 (Decidable.not_not.1 h4)
section
variable [Env] {vs:List V} {σ:St} {k:ah}
variable [aC]
end
end Go.Proofs.YtbajncpfmemdgaaGreatDoor
end
section
namespace Go.Proofs.YtbajncpfmemdgaaGreatDoor
open Go Go.Ev
def cM (x:Int) (m:Nat):Int:=IntKind.u8.wrap (x.fdiv (2^m))
def ny (x:Int):Nat→List UInt8
 | 0=>[]
 | j+1=>ny x j++[byteOf (cM x (56-8*j))]
end Go.Proofs.YtbajncpfmemdgaaGreatDoor
end
section
namespace Go.Proofs.YtbajncpfmemdgaaGreatDoor
open Go Go.Ev
end Go.Proofs.YtbajncpfmemdgaaGreatDoor
end
section
namespace Go.Proofs.YtbajncpfmemdgaaGreatDoor
open Go Go.Ev
end Go.Proofs.YtbajncpfmemdgaaGreatDoor
end
section
namespace Go.Proofs.YtbajncpfmemdgaaGreatDoor
open Go Go.Ev Go.IntWalk
theorem CQ {x:Int} (hx:0≤x∧x<18446744073709551616):0≤dR x∧dR x<18446744073709551616:=by
 unfold dR
 split<;>omega
theorem nJ (x:Int):∀j,(ny x j).length=j
 | 0=>rfl
 | j+1=>by
  show(ny x j++[_]).length=_
  rw[List.length_append,nJ x j];rfl
section
variable [Env] [aC] {vs:List V} {σ:St} {k:ah}
omit [Env] [aC] in
theorem H7 {v:ay} (h:bZ v=0):v.f3.length≤64:=by
 unfold bZ at h
 repeat' split at h
 all_goals omega
end
end Go.Proofs.YtbajncpfmemdgaaGreatDoor
end
section
namespace Go.Proofs.YtbajncpfmemdgaaGreatDoor
open Go Go.Ev Go.IntWalk
section
variable [Env] [aC] {vs:List V} {σ:St} {k:ah}
omit [aC] in
theorem bI.mono {f:FuncId} {Q Q':ah} (h:bI Tryz.prog f vs Q σ) (hq:∀v τ,Q v τ→Q' v τ):bI Tryz.prog f vs Q' σ:=
 ⟨let ⟨v,τ,hx⟩:=h.ex;⟨v,τ,hq v τ hx⟩,fun ρ w vs' hr hv=>⟨(h.h ρ w vs' hr hv).1,(h.h ρ w vs' hr hv).2.mono fun e w' ⟨v,τ,ρ',v',h1,h2⟩=>⟨v,τ,ρ',v',hq v τ h1,h2⟩⟩⟩
end
end Go.Proofs.YtbajncpfmemdgaaGreatDoor
end
section
namespace Go.Proofs.YtbajncpfmemdgaaGreatDoor
open Go Go.Ev Go.IntWalk
noncomputable def t149 (B:Nat) (s:List UInt8):bF V:=w9 [2,42] [.ptr B 0,.func (.func 236) [] [.aM [.str s] 0]]
section
variable [Env] {vs:List V} {σ:St} {k:ah}
noncomputable def t5 (B:Nat) (s:List UInt8) (c:Int):bF V:=((t149 B s).put 43 (.int .u8 c)).put 5 (.int .u8 c)
variable [aC]
end
end Go.Proofs.YtbajncpfmemdgaaGreatDoor
end
section
namespace Go.Proofs.YtbajncpfmemdgaaGreatDoor
open Go Go.Ev Go.IntWalk
section
variable [Env] {vs:List V} {σ:St} {k:ah}
variable [aC]
end
end Go.Proofs.YtbajncpfmemdgaaGreatDoor
end
section
namespace Go.Proofs.YtbajncpfmemdgaaGreatDoor
open Go Go.Ev
structure ak where
 f0:Int
 f1:(List UInt8)
 f2:(List UInt8)
 f3:(List UInt8)
 f4:(List UInt8)
 f5:(List UInt8)
 f6:Int
 f7:(List (List UInt8))
 f8:aj
 f9:aa
 deriving Inhabited
def ak.cells (e:ak):List V:=[.int .i64 e.f0,.str e.f1,.str e.f2,.str e.f3,.str e.f4,.str e.f5,.int .i64 e.f6,ae V.str 1 e.f7,.str e.f8.f0,.int .i64 e.f8.f1,.bool e.f8.f2,.int .i64 e.f8.f3.f0,.int .i64 e.f8.f3.f1,.int .u64 e.f8.f3.f2,.str e.f8.f3.f3,.str e.f9.f0,.int .i64 e.f9.f1,ae aj.enc 7 e.f9.f2]
def ak.enc (e:ak):V:=.agg e.cells
theorem ak.clean [Env] (e:ak):∀u∈e.cells,Go.Ev.Clean u:=ax (Go.Ev.Clean.int _ _) (ax (Go.Ev.Clean.str _) (ax (Go.Ev.Clean.str _) (ax (Go.Ev.Clean.str _) (ax (Go.Ev.Clean.str _) (ax (Go.Ev.Clean.str _) (ax (Go.Ev.Clean.int _ _) (ax (dp (enc:=V.str) fun _ _=>ax (Go.Ev.Clean.str _) cz) (ax (Go.Ev.Clean.str _) (ax (Go.Ev.Clean.int _ _) (ax (Go.Ev.Clean.bool _) (ax (Go.Ev.Clean.int _ _) (ax (Go.Ev.Clean.int _ _) (ax (Go.Ev.Clean.int _ _) (ax (Go.Ev.Clean.str _) (ax (Go.Ev.Clean.str _) (ax (Go.Ev.Clean.int _ _) (ax (dp (enc:=aj.enc) fun x _=>aj.clean x) cz)))))))))))))))))
theorem ak.size (e:ak):e.cells.length=18:=rfl
structure nQ where
 f0:Int
 f1:(List UInt8)
 f2:(List ay)
 f3:(List ay)
 f4:(List ay)
 f5:Int
 f6:ak
 deriving Inhabited
def nQ.cells (e:nQ):List V:=[.int .i64 e.f0,.str e.f1,ae ay.enc 4 e.f2,ae ay.enc 4 e.f3,ae ay.enc 4 e.f4,.int .i64 e.f5,.int .i64 e.f6.f0,.str e.f6.f1,.str e.f6.f2,.str e.f6.f3,.str e.f6.f4,.str e.f6.f5,.int .i64 e.f6.f6,ae V.str 1 e.f6.f7,.str e.f6.f8.f0,.int .i64 e.f6.f8.f1,.bool e.f6.f8.f2,.int .i64 e.f6.f8.f3.f0,.int .i64 e.f6.f8.f3.f1,.int .u64 e.f6.f8.f3.f2,.str e.f6.f8.f3.f3,.str e.f6.f9.f0,.int .i64 e.f6.f9.f1,ae aj.enc 7 e.f6.f9.f2]
def nQ.enc (e:nQ):V:=.agg e.cells
theorem nQ.clean [Env] (e:nQ):∀u∈e.cells,Go.Ev.Clean u:=ax (Go.Ev.Clean.int _ _) (ax (Go.Ev.Clean.str _) (ax (dp (enc:=ay.enc) fun x _=>ay.clean x) (ax (dp (enc:=ay.enc) fun x _=>ay.clean x) (ax (dp (enc:=ay.enc) fun x _=>ay.clean x) (ax (Go.Ev.Clean.int _ _) (ax (Go.Ev.Clean.int _ _) (ax (Go.Ev.Clean.str _) (ax (Go.Ev.Clean.str _) (ax (Go.Ev.Clean.str _) (ax (Go.Ev.Clean.str _) (ax (Go.Ev.Clean.str _) (ax (Go.Ev.Clean.int _ _) (ax (dp (enc:=V.str) fun _ _=>ax (Go.Ev.Clean.str _) cz) (ax (Go.Ev.Clean.str _) (ax (Go.Ev.Clean.int _ _) (ax (Go.Ev.Clean.bool _) (ax (Go.Ev.Clean.int _ _) (ax (Go.Ev.Clean.int _ _) (ax (Go.Ev.Clean.int _ _) (ax (Go.Ev.Clean.str _) (ax (Go.Ev.Clean.str _) (ax (Go.Ev.Clean.int _ _) (ax (dp (enc:=aj.enc) fun x _=>aj.clean x) cz)))))))))))))))))))))))
theorem nQ.size (e:nQ):e.cells.length=24:=rfl
def Fl (p:Prop) (σ:St) (k:ah):Prop:=p∧k (.int .i64 0) σ∧k (.int .i64 1) σ
def loQ (o:nQ) (i:Nat):ay:=o.f3.getD i default
def hiQ (o:nQ) (i:Nat):ay:=o.f4.getD i default
def Pg (o:nQ):Prop:=(∀v∈o.f3,zr v)∧∀v∈o.f4,zr v
def KH:Nat→List Nat:=(fun _=>[])
theorem e69 [Env] (A:Nat→List SV→Prop) (Q:V→Prop) (e:ay):WE Tryz.prog 69 Tryz.f69 H4 0 KH A (fun v _=>Q v) [ay.enc e] Go.Ev.start=
  (((.i64:IntKind)=.i64∧af (decide ((((len e.f3:Nat):Int))>(2000:Int))) (Q (.int .i64 (0:Int))) (Q (.int .i64 (1:Int))))):=by kernel_rfl
def Yr [Env] (vs:List V) (σ:St) (k:ah):Prop:=
 Fl (∃e:ay,vs=[ay.enc e]) σ k
def tY [Env]:=kS 69 Yr H4
def q0:Nat→List Nat:=(fun i=>match i with | 0=>[0,3] | _=>[])
theorem Ph [Env] (A:Nat→List SV→Prop) (Q:V→Prop) (l:List (List UInt8)):WE Tryz.prog 68 Tryz.f68 tY 0 q0 A (fun v _=>Q v) [ae V.str 1 l] Go.Ev.start=
  (((.i64:IntKind)=.i64∧af (decide ((((l.length:Nat):Int))>(60:Int))) (Q (.int .i64 (0:Int))) (A 0 [.val (ae V.str 1 l),.val (.int .i64 (0:Int))]))):=by kernel_rfl
theorem Ys [Env] (A:Nat→List SV→Prop) (Q:V→Prop) (l:List (List UInt8)) (i:Int):WL Tryz.prog 68 Tryz.f68 tY 0 q0 A (fun v _=>Q v) 0 [.val (ae V.str 1 l),.val (.int .i64 i)]=
  (((.i64:IntKind)=.i64∧af (decide (i<(((l.length:Nat):Int)))) (((0≤i∧i<((l.length:Nat):Int))∧((.i64:IntKind)=.i64∧af (decide ((((len ((l.getD i.toNat default)):Nat):Int))>(500:Int))) (Q (.int .i64 (0:Int))) (A 0 [.val (ae V.str 1 l),.val (.int .i64 (IntKind.i64.wrap (i+(1:Int))))])))) (Q (.int .i64 (1:Int))))):=by kernel_rfl
def Yt [Env] (vs:List V) (σ:St) (k:ah):Prop:=
 Fl (∃l:List (List UInt8),bn σ vs [ae V.str 1 l]) σ k
def zC [Env]:=kS 68 Yt tY
def yy:Nat→List Nat:=(fun i=>match i with | 0=>[1,3] | _=>[])
theorem KI [Env] (A:Nat→List SV→Prop) (Q:V→Prop) (e:aa):WE Tryz.prog 52 Tryz.f52 zC 0 yy A (fun v _=>Q v) [aa.enc e] Go.Ev.start=
  (((.i64:IntKind)=.i64∧af (decide ((((e.f2.length:Nat):Int))>(20:Int))) (Q (.int .i64 (0:Int))) (((.i64:IntKind)=.i64∧af (decide ((((len e.f0:Nat):Int))>(500:Int))) (Q (.int .i64 (0:Int))) (A 0 [.box [.str e.f0,.int .i64 e.f1,ae aj.enc 7 e.f2],.val (.int .i64 (0:Int))]))))):=by kernel_rfl
theorem r52 [Env] (A:Nat→List SV→Prop) (Q:V→Prop) (e:aa) (i:Int):WL Tryz.prog 52 Tryz.f52 zC 0 yy A (fun v _=>Q v) 0 [.box [.str e.f0,.int .i64 e.f1,ae aj.enc 7 e.f2],.val (.int .i64 i)]=
  (((.i64:IntKind)=.i64∧af (decide (i<(((e.f2.length:Nat):Int)))) (((0≤i∧i<((e.f2.length:Nat):Int))∧((.i64:IntKind)=.i64∧af (decide ((((len ((e.f2.getD i.toNat default).f0):Nat):Int))>(500:Int))) (Q (.int .i64 (0:Int))) (((0≤i∧i<((e.f2.length:Nat):Int))∧((∃q13:ay,[.agg [.int .i64 ((e.f2.getD i.toNat default).f3.f0),.int .i64 ((e.f2.getD i.toNat default).f3.f1),.int .u64 ((e.f2.getD i.toNat default).f3.f2),.str ((e.f2.getD i.toNat default).f3.f3)]]=[ay.enc q13])∧((.i64:IntKind)=.i64∧Q (.int .i64 (0:Int)))∧((.i64:IntKind)=.i64∧A 0 [.box [.str e.f0,.int .i64 e.f1,ae aj.enc 7 e.f2],.val (.int .i64 (IntKind.i64.wrap (i+(1:Int))))]))))))) (Q (.int .i64 (1:Int))))):=by kernel_rfl
def Yu [Env] (vs:List V) (σ:St) (k:ah):Prop:=
 Fl (∃e:aa,vs=[aa.enc e]) σ k
def H8 [Env]:=kS 52 Yu zC
def yz:Nat→List Nat:=(fun _=>[])
theorem Pj [Env] (A:Nat→List SV→Prop) (Q:V→Prop) (e:ak):WE Tryz.prog 28 Tryz.f28 H8 0 yz A (fun v _=>Q v) [ak.enc e] Go.Ev.start=
  (((∃q14:List (List UInt8),bn ⟨(St.new (St.new Go.Ev.start 0 (.cells 18 [] (an [.int .i64 e.f0,.str e.f1,.str e.f2,.str e.f3,.str e.f4,.str e.f5,.int .i64 e.f6,ae V.str 1 e.f7,.str e.f8.f0,.int .i64 e.f8.f1,.bool e.f8.f2,.int .i64 e.f8.f3.f0,.int .i64 e.f8.f3.f1,.int .u64 e.f8.f3.f2,.str e.f8.f3.f3,.str e.f9.f0,.int .i64 e.f9.f1,ae aj.enc 7 e.f9.f2] .leaf 0) true false)) 1 (.cells 6 [] (an [.str e.f1,.str e.f2,.str e.f3,.str e.f4,.str e.f5,.str e.f8.f0] .leaf 0) true false)).heap,2⟩ [ae V.str 1 e.f7] [ae V.str 1 q14])∧((.i64:IntKind)=.i64∧Q (.int .i64 (0:Int)))∧((.i64:IntKind)=.i64∧((∃q15:List (List UInt8),bn ⟨(St.new (St.new Go.Ev.start 0 (.cells 18 [] (an [.int .i64 e.f0,.str e.f1,.str e.f2,.str e.f3,.str e.f4,.str e.f5,.int .i64 e.f6,ae V.str 1 e.f7,.str e.f8.f0,.int .i64 e.f8.f1,.bool e.f8.f2,.int .i64 e.f8.f3.f0,.int .i64 e.f8.f3.f1,.int .u64 e.f8.f3.f2,.str e.f8.f3.f3,.str e.f9.f0,.int .i64 e.f9.f1,ae aj.enc 7 e.f9.f2] .leaf 0) true false)) 1 (.cells 6 [] (an [.str e.f1,.str e.f2,.str e.f3,.str e.f4,.str e.f5,.str e.f8.f0] .leaf 0) true false)).heap,2⟩ [.slice 1 0 (6) (6) true 1] [ae V.str 1 q15])∧((.i64:IntKind)=.i64∧Q (.int .i64 (0:Int)))∧((.i64:IntKind)=.i64∧((∃q16:aa,[.agg [.str e.f9.f0,.int .i64 e.f9.f1,ae aj.enc 7 e.f9.f2]]=[aa.enc q16])∧((.i64:IntKind)=.i64∧Q (.int .i64 (0:Int)))∧((.i64:IntKind)=.i64∧((∃q17:ay,[.agg [.int .i64 e.f8.f3.f0,.int .i64 e.f8.f3.f1,.int .u64 e.f8.f3.f2,.str e.f8.f3.f3]]=[ay.enc q17])∧((.i64:IntKind)=.i64∧Q (.int .i64 (0:Int)))∧((.i64:IntKind)=.i64∧Q (.int .i64 (1:Int))))))))))):=by kernel_rfl
def Yv [Env] (vs:List V) (σ:St) (k:ah):Prop:=
 Fl (∃e:ak,vs=[ak.enc e]) σ k
def H9 [Env]:=kS 28 Yv H8
end Go.Proofs.YtbajncpfmemdgaaGreatDoor
end
section
namespace Go.Proofs.YtbajncpfmemdgaaGreatDoor
open Go Go.Ev
end Go.Proofs.YtbajncpfmemdgaaGreatDoor
end
section
namespace Go.Proofs.YtbajncpfmemdgaaGreatDoor
open Go Go.Ev Go.IntWalk
theorem F69:bU Tryz.prog 69 Tryz.f69:=.of (by kernel_rfl) (by kernel_rfl)
theorem F68:bU Tryz.prog 68 Tryz.f68:=.of (by kernel_rfl) (by kernel_rfl)
theorem F52:bU Tryz.prog 52 Tryz.f52:=.of (by kernel_rfl) (by kernel_rfl)
theorem F28:bU Tryz.prog 28 Tryz.f28:=.of (by kernel_rfl) (by kernel_rfl)
theorem ak.aG [Env] (e:ak):Go.Ev.Clean (ak.enc e):=Go.Ev.Clean.agg e.clean
theorem nQ.aG [Env] (e:nQ):Go.Ev.Clean (nQ.enc e):=Go.Ev.Clean.agg e.clean
section
variable [Env] {vs:List V} {σ:St} {k:ah}
theorem tZ {v:V} (h:Go.Ev.Clean v):bn σ [v] [v]:=.cons (.clean h) .nil
variable [aC]
def Z (v:V):Prop:=v=.int .i64 0∨v=.int .i64 1
omit [Env] in
theorem Z.gb (v:V) (h:Z v):V.gb v=true:=by rcases h with rfl | rfl<;>rfl
omit [aC] in
theorem ua {f:FuncId} {us:List V} {p:Prop} (hf:bn σ vs us) (h:ag Tryz.prog f us (fun v _=>Z v) Go.Ev.start) (ht:Fl p σ k):ag Tryz.prog f vs k σ:=
 ag.Km hf Z.gb h fun v hv=>by
  rcases hv with rfl | rfl
  ·exact ht.2.1
  ·exact ht.2.2
omit [Env] in
theorem z0:Z (.int .i64 0):=.inl rfl
omit [Env] in
theorem z1:Z (.int .i64 1):=.inr rfl
theorem S4 (h:Yr vs σ k):ag Tryz.prog 69 vs k σ:=by
 obtain⟨e,rfl⟩:=h.1
 refine ua (tZ e.aG) (F69.flat (live:=KH) (call:=H4) (n₀:=0) (fun h=>Fk h) rfl (by kernel_rfl) ?_) h
 rw[e69]
 exact⟨rfl,af.mk (fun _=>z0) fun _=>z1⟩
theorem q3:∀ {f:FuncId} {vs:List V} {σ:St} {k:ah},tY f vs σ k→ag Tryz.prog f vs k σ:=fun h=>aP S4 Fk h
def KJ {α:Type} [Inhabited α] (enc:α→V) (esz:Nat) (l:List α):Nat→List SV→Prop
 | 0,ss=>∃i:Int,0≤i∧i≤l.length∧ss=[.val (ae enc esz l),.val (.int .i64 i)]
 | _,_=>False
omit [aC] in
theorem pM {α:Type} [Inhabited α] {enc:α→V} {esz:Nat} {l:List α} (hc:Go.Ev.Clean (ae enc esz l)):∀k ss,KJ enc esz l k ss→∀s∈ss,s.clean:=by
 intro k ss hI s hs
 cases k with
 | zero=>
  obtain⟨i,_,_,rfl⟩:=hI
  simp only[List.mem_cons,List.not_mem_nil,or_false] at hs
  rcases hs with rfl | rfl
  ·exact hc
  ·exact Go.Ev.Clean.int _ _
 | succ k=>exact hI.elim
omit [Env] in
theorem iD (v:V) (i:Int):cu [.val v,.val (.int .i64 i)]=i.toNat:=by cases v<;>rfl
omit [Env] in
theorem lY {α:Type} [Inhabited α] (enc:α→V) (l:List α):b9 l.length (fun i=>enc (l.getD i default))=l.map enc:=by
 apply List.ext_getElem?
 intro i
 by_cases h:i<l.length
 ·rw[dg h,List.getElem?_map,List.getElem?_eq_getElem h,List.getD_eq_getElem?_getD,List.getElem?_eq_getElem h];rfl
 ·rw[List.getElem?_eq_none (by rw[aS];omega),List.getElem?_eq_none (by rw[List.length_map];omega)]
omit [aC] in
theorem AM {b n cap:Nat} {ex:Bool} (ls:List (List UInt8)) (hn:ls.length=n) (h:σ.cells b 0 (n*1)=some (ls.map V.str)):bn σ [V.slice b 0 n cap ex 1] [ae V.str 1 ls]:=by
 have e1:∀l:List (List UInt8),ar (l.map V.str)=l.map V.str:=by
  intro l
  induction l with
  | nil=>rfl
  | cons x l ih=>rw[List.map_cons,bS,ih];rfl
 have e2:∀l:List (List UInt8),bn σ (l.map V.str) (l.map V.str):=fun l=>bn.clean fun v hv=>by
  obtain⟨x,_,rfl⟩:=List.mem_map.1 hv
  exact Go.Ev.Clean.str x
 refine .cons (.lT (.slice h ?_ ?_ ?_)) .nil
 ·rw[lY,e1];exact e2 ls
 ·rw[lY]
  intro v hv
  obtain⟨x,_,rfl⟩:=List.mem_map.1 hv
  rfl
 ·rw[aS,hn]
theorem S5 (h:Yt vs σ k):ag Tryz.prog 68 vs k σ:=by
 obtain⟨l,hf⟩:=h.1
 have hc:Go.Ev.Clean (ae V.str 1 l):=dp fun _ _=>ax (Go.Ev.Clean.str _) cz
 refine ua hf ?_ h
 by_cases hl:l.length≤60
 ·refine F68.cx (live:=q0) (call:=tY) (n₀:=0) (fun h=>q3 h) rfl 1 (by kernel_rfl) Nat.lt_wfRel.wf (fun _ ss=>60-cu ss) (KJ V.str 1 l) (pM hc) ?_ ?_
  ·rw[Ph]
   exact⟨rfl,af.mk (fun e=>absurd (of_decide_eq_true e) (by omega)) fun _=>⟨0,by omega,by omega,rfl⟩⟩
  ·intro k hk ss hI
   obtain rfl:k=0:=by omega
   obtain⟨i,h0,h1,rfl⟩:=hI
   rw[Ys]
   refine⟨rfl,af.mk (fun e=>?_) fun _=>z1⟩
   have e:=of_decide_eq_true e
   refine⟨⟨h0,e⟩,rfl,af.mk (fun _=>z0) fun _=>⟨⟨i+1,by omega,by omega,by rw[i64_in _ (by omega)]⟩,?_⟩⟩
   rw[i64_in _ (by omega),iD,iD]
   show 60-(i+1).toNat<60-i.toNat
   omega
 ·refine F68.cx (live:=q0) (call:=tY) (n₀:=0) (fun h=>q3 h) rfl 1 (by kernel_rfl) Nat.lt_wfRel.wf (fun _ _=>0) (fun _ _=>False) (fun _ _ h=>h.elim) ?_ fun _ _ _ h=>h.elim
  rw[Ph]
  exact⟨rfl,af.mk (fun _=>z0) fun e=>absurd (of_decide_eq_false e) (by omega)⟩
theorem zD:∀ {f:FuncId} {vs:List V} {σ:St} {k:ah},zC f vs σ k→ag Tryz.prog f vs k σ:=fun h=>aP S5 q3 h
def I52 (e:aa):Nat→List SV→Prop
 | 0,ss=>∃i:Int,0≤i∧i≤e.f2.length∧ss=[.box [.str e.f0,.int .i64 e.f1,ae aj.enc 7 e.f2],.val (.int .i64 i)]
 | _,_=>False
theorem S6 (h:Yu vs σ k):ag Tryz.prog 52 vs k σ:=by
 obtain⟨e,rfl⟩:=h.1
 refine ua (tZ e.aG) ?_ h
 by_cases hl:e.f2.length≤20
 ·refine F52.cx (live:=yy) (call:=zC) (n₀:=0) (fun h=>zD h) rfl 1 (by kernel_rfl) Nat.lt_wfRel.wf (fun _ ss=>20-cu ss) (I52 e) ?_ ?_ ?_
  ·intro k ss hI s hs
   cases k with
   | zero=>
    obtain⟨i,_,_,rfl⟩:=hI
    simp only[List.mem_cons,List.not_mem_nil,or_false] at hs
    rcases hs with rfl | rfl
    ·exact e.clean
    ·exact Go.Ev.Clean.int _ _
   | succ k=>exact hI.elim
  ·rw[KI]
   exact⟨rfl,af.mk (fun e=>absurd (of_decide_eq_true e) (by omega)) fun _=>⟨rfl,af.mk (fun _=>z0) fun _=>⟨0,by omega,by omega,rfl⟩⟩⟩
  ·intro k hk ss hI
   obtain rfl:k=0:=by omega
   obtain⟨i,h0,h1,rfl⟩:=hI
   rw[r52]
   refine⟨rfl,af.mk (fun q=>?_) fun _=>z1⟩
   have q:=of_decide_eq_true q
   refine⟨⟨h0,q⟩,rfl,af.mk (fun _=>z0) fun _=>⟨⟨h0,q⟩,⟨(e.f2.getD i.toNat default).f3,rfl⟩,⟨rfl,z0⟩,rfl,⟨i+1,by omega,by omega,by rw[i64_in _ (by omega)]⟩,?_⟩⟩
   rw[i64_in _ (by omega)]
   show 20-(i+1).toNat<20-i.toNat
   omega
 ·refine F52.cx (live:=yy) (call:=zC) (n₀:=0) (fun h=>zD h) rfl 1 (by kernel_rfl) Nat.lt_wfRel.wf (fun _ _=>0) (fun _ _=>False) (fun _ _ h=>h.elim) ?_ fun _ _ _ h=>h.elim
  rw[KI]
  exact⟨rfl,af.mk (fun _=>z0) fun e=>absurd (of_decide_eq_false e) (by omega)⟩
theorem Fm:∀ {f:FuncId} {vs:List V} {σ:St} {k:ah},H8 f vs σ k→ag Tryz.prog f vs k σ:=fun h=>aP S6 zD h
theorem S8 (h:Yv vs σ k):ag Tryz.prog 28 vs k σ:=by
 obtain⟨e,rfl⟩:=h.1
 refine ua (tZ e.aG) (F28.flat (live:=yz) (call:=H8) (n₀:=0) (fun h=>Fm h) rfl (by kernel_rfl) ?_) h
 rw[Pj]
 refine⟨⟨e.f7,tZ (dp fun _ _=>ax (Go.Ev.Clean.str _) cz)⟩,⟨rfl,z0⟩,rfl,⟨[e.f1,e.f2,e.f3,e.f4,e.f5,e.f8.f0],AM _ rfl (by kernel_rfl)⟩,⟨rfl,z0⟩,rfl,⟨e.f9,rfl⟩,⟨rfl,z0⟩,rfl,⟨e.f8.f3,rfl⟩,⟨rfl,z0⟩,rfl,z1⟩
theorem Fo:∀ {f:FuncId} {vs:List V} {σ:St} {k:ah},H9 f vs σ k→ag Tryz.prog f vs k σ:=fun h=>aP S8 Fm h
end
end Go.Proofs.YtbajncpfmemdgaaGreatDoor
end
section
namespace Go.Proofs.YtbajncpfmemdgaaGreatDoor.yA
open Go.Ev
theorem qk:Tryz.prog.follows .mixedOrders=true:=by kernel_rfl
abbrev i (n:Int):V:=.int .i64 n
def bs (l:List Nat):V:=.str (l.map UInt8.ofNat)
noncomputable def cl (l:List V):Trie V:=an l .leaf 0
noncomputable def cs (l:List (Nat×V)):Trie V:=Bk l .leaf
noncomputable def cat (l:List (List V)):List V:=List.rec (motive:=fun _=>List V) [] (fun a _ ih=>app a ih) l
theorem S9 {P:Program} {a0 a1 a2:Ev.Told} (h0:a0.ok P) (h1:a1.ok P) (h2:a2.ok P):∀e∈[a0,a1,a2],e.ok P:=by
 intro e he
 simp only[List.mem_cons,List.not_mem_nil,or_false] at he
 rcases he with rfl | rfl | rfl
 ·exact h0
 ·exact h1
 ·exact h2
end Go.Proofs.YtbajncpfmemdgaaGreatDoor.yA
end
section
set_option maxRecDepth 100000
namespace Go.Proofs.YtbajncpfmemdgaaGreatDoor.yA
open Go.Ev
noncomputable def t1:Ev.Told where
 f:=47
 args:=[.ai,.agg [i 6,bs [],.ai,.ai,.ai,i 0,i 1,bs [],bs [],bs [],bs [],bs [],i 0,.ai,bs [],i 0,.bool false,i 0,i 0,.int .u64 0,bs [],bs [116],i 1,.slice 31 0 2 2 true 7]]
 pre:=[(31,.cells 14 [] (cl ([bs [107],i 2,.bool false,i 0,i 0,.int .u64 0,bs [],bs [118],i 5,.bool true,i 0,i 0,.int .u64 0,bs []])) true false)]
 now:=41
 v:=.tuple [.slice 196 0 1 1 false 4,.agg [i 0,.ai]]
 post:=[(31,some (.cells 14 [] (cl ([bs [107],i 2,.bool false,i 0,i 0,.int .u64 0,bs [],bs [118],i 5,.bool true,i 0,i 0,.int .u64 0,bs []])) true false)),(191,some (.cells 14 [] (cl ([bs [107],i 2,.bool false,i 0,i 0,.int .u64 0,bs [],bs [118],i 5,.bool true,i 0,i 0,.int .u64 0,bs []])) true false)),(196,some (.cells 4 [] (cl ([bs [116],i 1,.slice 191 0 2 2 false 7,.ai])) true false))]
 then':=197
theorem Pk:t1.ok Tryz.prog:=Ev.Told.mz (O:=[]) qk (fun _ h=>by cases h) 100000 (by kernel_rfl)
noncomputable def t2:Ev.Told where
 f:=47
 args:=[.slice 196 0 1 1 false 4,.agg [i 3,bs [116],.slice 32 0 2 2 true 4,.ai,.ai,i 0,i 0,bs [],bs [],bs [],bs [],bs [],i 0,.ai,bs [],i 0,.bool false,i 0,i 0,.int .u64 0,bs [],bs [],i 0,.ai]]
 pre:=[(32,.cells 8 [] (cl ([i 2,i 1,.int .u64 0,bs [],i 5,i 0,.int .u64 0,bs [53]])) true false),(191,.cells 14 [] (cl ([bs [107],i 2,.bool false,i 0,i 0,.int .u64 0,bs [],bs [118],i 5,.bool true,i 0,i 0,.int .u64 0,bs []])) true false),(196,.cells 4 [] (cl ([bs [116],i 1,.slice 191 0 2 2 false 7,.ai])) true false)]
 now:=201
 v:=.tuple [.slice 494 0 1 1 false 4,.agg [i 0,.ai]]
 post:=[(32,some (.cells 8 [] (cl ([i 2,i 1,.int .u64 0,bs [],i 5,i 0,.int .u64 0,bs [53]])) true false)),(191,some (.cells 14 [] (cl ([bs [107],i 2,.bool false,i 0,i 0,.int .u64 0,bs [],bs [118],i 5,.bool true,i 0,i 0,.int .u64 0,bs []])) true false)),(196,some (.cells 4 [] (cl ([bs [116],i 1,.slice 191 0 2 2 false 7,.ai])) true false)),(481,some (.cells 8 [] (cl ([i 2,i 1,.int .u64 0,bs [],i 5,i 0,.int .u64 0,bs [53]])) true false)),(487,some (.cells 2 [] (cl ([bs [2,128,0,0,0,0,0,0,1],.slice 481 0 2 2 false 4])) true false)),(494,some (.cells 4 [] (cl ([bs [116],i 1,.slice 191 0 2 2 false 7,.slice 487 0 1 1 false 2])) true false))]
 then':=499
theorem Pl:t2.ok Tryz.prog:=Ev.Told.mz (O:=[]) qk (fun _ h=>by cases h) 100000 (by kernel_rfl)
noncomputable def t3:Ev.Told where
 f:=47
 args:=[.slice 494 0 1 1 false 4,.agg [i 3,bs [116],.slice 35 0 2 2 true 4,.ai,.ai,i 0,i 0,bs [],bs [],bs [],bs [],bs [],i 0,.ai,bs [],i 0,.bool false,i 0,i 0,.int .u64 0,bs [],bs [],i 0,.ai]]
 pre:=[(35,.cells 8 [] (cl ([i 2,i 2,.int .u64 0,bs [],i 5,i 0,.int .u64 0,bs [55]])) true false),(191,.cells 14 [] (cl ([bs [107],i 2,.bool false,i 0,i 0,.int .u64 0,bs [],bs [118],i 5,.bool true,i 0,i 0,.int .u64 0,bs []])) true false),(487,.cells 2 [] (cl ([bs [2,128,0,0,0,0,0,0,1],.slice 481 0 2 2 false 4])) true false),(494,.cells 4 [] (cl ([bs [116],i 1,.slice 191 0 2 2 false 7,.slice 487 0 1 1 false 2])) true false)]
 now:=824
 v:=.tuple [.slice 1120 0 1 1 false 4,.agg [i 0,.ai]]
 post:=[(35,some (.cells 8 [] (cl ([i 2,i 2,.int .u64 0,bs [],i 5,i 0,.int .u64 0,bs [55]])) true false)),(191,some (.cells 14 [] (cl ([bs [107],i 2,.bool false,i 0,i 0,.int .u64 0,bs [],bs [118],i 5,.bool true,i 0,i 0,.int .u64 0,bs []])) true false)),(487,some (.cells 2 [] (cl ([bs [2,128,0,0,0,0,0,0,1],.slice 481 0 2 2 false 4])) true false)),(494,some (.cells 4 [] (cl ([bs [116],i 1,.slice 191 0 2 2 false 7,.slice 487 0 1 1 false 2])) true false)),(1107,some (.cells 8 [] (cl ([i 2,i 2,.int .u64 0,bs [],i 5,i 0,.int .u64 0,bs [55]])) true false)),(1113,some (.cells 4 [] (cl ([bs [2,128,0,0,0,0,0,0,1],.slice 481 0 2 2 false 4,bs [2,128,0,0,0,0,0,0,2],.slice 1107 0 2 2 false 4])) true false)),(1120,some (.cells 4 [] (cl ([bs [116],i 1,.slice 191 0 2 2 false 7,.slice 1113 0 2 2 false 2])) true false))]
 then':=1125
theorem Pm:t3.ok Tryz.prog:=Ev.Told.mz (O:=[]) qk (fun _ h=>by cases h) 100000 (by kernel_rfl)
noncomputable def t4:Ev.Told where
 f:=47
 args:=[.slice 1120 0 1 1 false 4,.agg [i 2,bs [116],.ai,.ai,.ai,i 5,i 0,bs [],bs [],bs [],bs [],bs [],i 0,.ai,bs [],i 0,.bool false,i 0,i 0,.int .u64 0,bs [],bs [],i 0,.ai]]
 pre:=[(191,.cells 14 [] (cl ([bs [107],i 2,.bool false,i 0,i 0,.int .u64 0,bs [],bs [118],i 5,.bool true,i 0,i 0,.int .u64 0,bs []])) true false),(1113,.cells 4 [] (cl ([bs [2,128,0,0,0,0,0,0,1],.slice 481 0 2 2 false 4,bs [2,128,0,0,0,0,0,0,2],.slice 1107 0 2 2 false 4])) true false),(1120,.cells 4 [] (cl ([bs [116],i 1,.slice 191 0 2 2 false 7,.slice 1113 0 2 2 false 2])) true false)]
 now:=1129
 v:=.tuple [.slice 1120 0 1 1 false 4,.agg [i 0,.slice 1288 0 2 2 false 1]]
 post:=[(191,some (.cells 14 [] (cl ([bs [107],i 2,.bool false,i 0,i 0,.int .u64 0,bs [],bs [118],i 5,.bool true,i 0,i 0,.int .u64 0,bs []])) true false)),(1113,some (.cells 4 [] (cl ([bs [2,128,0,0,0,0,0,0,1],.slice 481 0 2 2 false 4,bs [2,128,0,0,0,0,0,0,2],.slice 1107 0 2 2 false 4])) true false)),(1120,some (.cells 4 [] (cl ([bs [116],i 1,.slice 191 0 2 2 false 7,.slice 1113 0 2 2 false 2])) true false)),(1288,some (.cells 2 [] (cl ([.slice 481 0 2 2 true 4,.slice 1107 0 2 2 true 4])) true false))]
 then':=1293
noncomputable def t5:Ev.Told where
 f:=47
 args:=[.slice 1120 0 1 1 false 4,.agg [i 6,bs [],.ai,.ai,.ai,i 0,i 4,bs [116],bs [],bs [],bs [],bs [118],i 2,.ai,bs [],i 0,.bool false,i 0,i 0,.int .u64 0,bs [],bs [],i 0,.ai]]
 pre:=[(191,.cells 14 [] (cl ([bs [107],i 2,.bool false,i 0,i 0,.int .u64 0,bs [],bs [118],i 5,.bool true,i 0,i 0,.int .u64 0,bs []])) true false),(481,.cells 8 [] (cl ([i 2,i 1,.int .u64 0,bs [],i 5,i 0,.int .u64 0,bs [53]])) true false),(1107,.cells 8 [] (cl ([i 2,i 2,.int .u64 0,bs [],i 5,i 0,.int .u64 0,bs [55]])) true false),(1113,.cells 4 [] (cl ([bs [2,128,0,0,0,0,0,0,1],.slice 481 0 2 2 false 4,bs [2,128,0,0,0,0,0,0,2],.slice 1107 0 2 2 false 4])) true false),(1120,.cells 4 [] (cl ([bs [116],i 1,.slice 191 0 2 2 false 7,.slice 1113 0 2 2 false 2])) true false)]
 now:=1297
 v:=.tuple [.slice 1913 0 1 1 false 4,.agg [i 0,.ai]]
 post:=[(191,some (.cells 14 [] (cl ([bs [107],i 2,.bool false,i 0,i 0,.int .u64 0,bs [],bs [118],i 5,.bool true,i 0,i 0,.int .u64 0,bs []])) true false)),(481,some (.cells 8 [] (cl ([i 2,i 1,.int .u64 0,bs [],i 5,i 0,.int .u64 0,bs [53]])) true false)),(1107,some (.cells 8 [] (cl ([i 2,i 2,.int .u64 0,bs [],i 5,i 0,.int .u64 0,bs [55]])) true false)),(1113,some (.cells 4 [] (cl ([bs [2,128,0,0,0,0,0,0,1],.slice 481 0 2 2 false 4,bs [2,128,0,0,0,0,0,0,2],.slice 1107 0 2 2 false 4])) true false)),(1120,some (.cells 4 [] (cl ([bs [116],i 1,.slice 191 0 2 2 false 7,.slice 1113 0 2 2 false 2])) true false)),(1589,some (.cells 14 [] (cl ([bs [107],i 2,.bool false,i 0,i 0,.int .u64 0,bs [],bs [118],i 2,.bool true,i 0,i 0,.int .u64 0,bs []])) true false)),(1691,some (.cells 12 [i 0,i 0,.int .u64 0,bs []] (cl ([i 2,i 1,.int .u64 0,bs [],i 2,i 5,.int .u64 0,bs []])) true false)),(1849,some (.cells 12 [i 0,i 0,.int .u64 0,bs []] (cl ([i 2,i 2,.int .u64 0,bs [],i 2,i 7,.int .u64 0,bs []])) true false)),(1906,some (.cells 4 [] (cl ([bs [2,128,0,0,0,0,0,0,1],.slice 1691 0 2 3 true 4,bs [2,128,0,0,0,0,0,0,2],.slice 1849 0 2 3 true 4])) true false)),(1913,some (.cells 4 [] (cl ([bs [116],i 1,.slice 1589 0 2 2 false 7,.slice 1906 0 2 2 false 2])) true false))]
 then':=1914
end Go.Proofs.YtbajncpfmemdgaaGreatDoor.yA
end
section
namespace Go.Proofs.YtbajncpfmemdgaaGreatDoor.yA
open Go.Ev
end Go.Proofs.YtbajncpfmemdgaaGreatDoor.yA
end
section
namespace Go.Proofs.YtbajncpfmemdgaaGreatDoor
open Go Go.Ev Go.IntWalk
section
variable [Env] {vs:List V} {σ:St} {k:ah}
theorem says {P:Program} [Go.Ev.eJ P] {f:FuncId} {vs:List V} {σ:St} {O:List Ev.Told} (hO:∀e∈O,e.ok P) (n:Nat) (h:(zn P O n (.call f vs) σ).check w6=true):ag P f vs (fun v _=>v=.bool true) σ:=
 ⟨(cm.EI (n:=n) hO (bA.mq h)).mono fun⟨o,τ⟩ hx=>by
   cases o with
   | val v=>
    cases v with
    | bool b=>have hx:b=true:=hx;rw[hx];rfl
    | _=>cases hx
   | exit e a=>cases hx⟩
variable [aC]
omit [Env] [aC] in
theorem Pg.lo {o:nQ} (h:Pg o):∀i,i<o.f3.length→zr (loQ o i):=fun i hi=>h.1 _ (ba hi)
omit [Env] [aC] in
theorem Pg.hi {o:nQ} (h:Pg o):∀i,i<o.f4.length→zr (hiQ o i):=fun i hi=>h.2 _ (ba hi)
end
end Go.Proofs.YtbajncpfmemdgaaGreatDoor
end
section
namespace Go.Proofs.YtbajncpfmemdgaaGreatDoor
open Go Go.Ev
def il (a b:Int):Bool:=decide ((1≤a∧a≤5)∧(1≤b∧b≤5)∧¬(a=1∧b=4)∧¬(a=4∧b=1)∧¬(a=3∧b=5)∧¬(a=5∧b=3))
def eO:Nat→Nat→List UInt8
 | 0,m=>[byteOf ((48+m:Nat):Int)]
 | f+1,m=>if m<10 then [byteOf ((48+m:Nat):Int)] else eO f (m/10)++[byteOf ((48+m%10:Nat):Int)]
def gx (n:Int):List UInt8:=(if n<0 then [byteOf 45] else [])++eO 20 n.natAbs
def dH (n:Int):Prop:= -9223372036854775808≤n∧n≤9223372036854775807
def xd (s:List UInt8):Prop:=∃n,dH n∧gx n=s
noncomputable def kP (s:List UInt8):Int:=@dite _ (xd s) (Classical.propDecidable _) (fun h=>Classical.choose h) fun _=>0
noncomputable def jL (s:List UInt8):Int:=@ite _ (xd s) (Classical.propDecidable _) 0 7
def Fp:Nat→List Nat:=(fun _=>[])
abbrev KK [Env] (A:Nat→List SV→Prop) (Q:V→Prop) (a b:Int):Prop:=
 ((.i64:IntKind)=.i64∧af (decide (a=(3:Int))) (((.i64:IntKind)=.i64∧af (decide (b=(5:Int))) (Q (.bool false)) (((.i64:IntKind)=.i64∧af (decide (a=(5:Int))) (((.i64:IntKind)=.i64∧af (decide (b=(3:Int))) (Q (.bool false)) (Q (.bool true)))) (Q (.bool true)))))) (((.i64:IntKind)=.i64∧af (decide (a=(5:Int))) (((.i64:IntKind)=.i64∧af (decide (b=(3:Int))) (Q (.bool false)) (Q (.bool true)))) (Q (.bool true)))))
theorem aau [Env] (A:Nat→List SV→Prop) (Q:V→Prop) (a b:Int):WE Tryz.prog 253 Tryz.f253 H9 0 Fp A (fun v _=>Q v) [.int .i64 a,.int .i64 b] Go.Ev.start=
  (((.i64:IntKind)=.i64∧af (decide (a<(1:Int))) (Q (.bool false)) (((.i64:IntKind)=.i64∧af (decide (a>(5:Int))) (Q (.bool false)) (((.i64:IntKind)=.i64∧af (decide (b<(1:Int))) (Q (.bool false)) (((.i64:IntKind)=.i64∧af (decide (b>(5:Int))) (Q (.bool false)) (((.i64:IntKind)=.i64∧af (decide (a=(1:Int))) (((.i64:IntKind)=.i64∧af (decide (b=(4:Int))) (Q (.bool false)) (((.i64:IntKind)=.i64∧af (decide (a=(4:Int))) (((.i64:IntKind)=.i64∧af (decide (b=(1:Int))) (Q (.bool false)) ((KK A Q a b)))) ((KK A Q a b)))))) (((.i64:IntKind)=.i64∧af (decide (a=(4:Int))) (((.i64:IntKind)=.i64∧af (decide (b=(1:Int))) (Q (.bool false)) ((KK A Q a b)))) ((KK A Q a b)))))))))))))):=by kernel_rfl
def MB [Env] (vs:List V) (σ:St) (k:ah):Prop:=
 match vs with
 | [.int .i64 a,.int .i64 b]=>k (.bool (il a b)) σ
 | _=>False
def Ia [Env]:=kS 253 MB H9
def Fq:Nat→List Nat:=(fun _=>[])
theorem aav [Env] (A:Nat→List SV→Prop) (Q:V→St→Prop) (e:Int):WE Tryz.prog 251 Tryz.f251 Ia 0 Fq A Q [.int .i64 e] Go.Ev.start=
  (Q (.func (.func 265) [] [.ptr 0 0]) ⟨(St.new Go.Ev.start 0 (.cells 1 [] (an [.int .i64 e] .leaf 0) true false)).heap,1⟩):=by kernel_rfl
def MC [Env] (vs:List V) (σ:St) (k:ah):Prop:=
 match vs with
 | [.int .i64 e]=>k (.func (.func 265) [] [.aM [.int .i64 e] 0]) σ
 | _=>False
def Ib [Env]:=kS 251 MC Ia
def Fs:Nat→List Nat:=(fun _=>[])
theorem aaw [Env] (A:Nat→List SV→Prop) (Q:V→St→Prop) (e:ay):WE Tryz.prog 252 Tryz.f252 Ib 0 Fs A Q [ay.enc e] Go.Ev.start=
  (Q (.func (.func 266) [] [.ptr 0 0]) ⟨(St.new Go.Ev.start 0 (.cells 4 [] (an [.int .i64 e.f0,.int .i64 e.f1,.int .u64 e.f2,.str e.f3] .leaf 0) true false)).heap,1⟩):=by kernel_rfl
def MD [Env] (vs:List V) (σ:St) (k:ah):Prop:=
 match vs with
 | [.agg [.int .i64 a,.int .i64 b,.int .u64 c,.str s]]=>k (.func (.func 266) [] [.aM [.int .i64 a,.int .i64 b,.int .u64 c,.str s] 0]) σ
 | _=>False
def Ic [Env]:=kS 252 MD Ib
def Ft:Nat→List Nat:=(fun _=>[])
theorem aax [Env] (A:Nat→List SV→Prop) (Q:V→Prop) (e:Int):WE Tryz.prog 265 Tryz.f265 Ic 0 Ft A (fun v _=>Q v) [.aM [.int .i64 e] 0] Go.Ev.start=
  (Q (.tuple [.agg [.int .i64 (0:Int),.int .i64 (0:Int),.int .u64 (0:Int),.str ([])],.int .i64 e])):=by kernel_rfl
def ME [Env] (vs:List V) (σ:St) (k:ah):Prop:=
 match vs with
 | [.aM [.int .i64 e] 0]=>k (.tuple [.agg [.int .i64 0,.int .i64 0,.int .u64 0,.str []],.int .i64 e]) σ
 | _=>False
def Ie [Env]:=kS 265 ME Ic
def Fu:Nat→List Nat:=(fun _=>[])
theorem aay [Env] (A:Nat→List SV→Prop) (Q:V→Prop) (a b c:Int) (s:List UInt8):WE Tryz.prog 266 Tryz.f266 Ie 0 Fu A (fun v _=>Q v) [.aM [.int .i64 a,.int .i64 b,.int .u64 c,.str s] 0] Go.Ev.start=
  (Q (.tuple [.agg [.int .i64 a,.int .i64 b,.int .u64 c,.str s],.int .i64 (0:Int)])):=by kernel_rfl
def MF [Env] (vs:List V) (σ:St) (k:ah):Prop:=
 match vs with
 | [.aM [.int .i64 a,.int .i64 b,.int .u64 c,.str s] 0]=>k (.tuple [.agg [.int .i64 a,.int .i64 b,.int .u64 c,.str s],.int .i64 0]) σ
 | _=>False
def mF [Env]:=kS 266 MF Ie
def im:Nat→List Nat:=(fun i=>match i with | 0=>[0,3,5] | _=>[])
theorem aaz [Env] (A:Nat→List SV→Prop) (Q:V→Prop) (x:Int):WE Tryz.prog 268 Tryz.f268 mF 0 im A (fun v _=>Q v) [.int .u64 x] Go.Ev.start=
  (A 0 [.val (.int .u64 x),.box [.int .u8 (0:Int),.int .u8 (0:Int),.int .u8 (0:Int),.int .u8 (0:Int),.int .u8 (0:Int),.int .u8 (0:Int),.int .u8 (0:Int),.int .u8 (0:Int)],.val (.int .i64 (0:Int))]):=by kernel_rfl
theorem Ta [Env] (A:Nat→List SV→Prop) (Q:V→Prop) (x:Int) (c:Nat→Int):WL Tryz.prog 268 Tryz.f268 mF 0 im A (fun v _=>Q v) 0 [.val (.int .u64 x),.box [.int .u8 (0:Int),.int .u8 (0:Int),.int .u8 (0:Int),.int .u8 (0:Int),.int .u8 (0:Int),.int .u8 (0:Int),.int .u8 (0:Int),.int .u8 (0:Int)],.val (.int .i64 (0:Int))]=
  (((.i64:IntKind)=.i64∧(0≤(56:Int)∧A 0 [.val (.int .u64 x),.box [.int .u8 (IntKind.u8.wrap (x.fdiv (2^min (56:Int).toNat IntKind.u64.bits))),.int .u8 (0:Int),.int .u8 (0:Int),.int .u8 (0:Int),.int .u8 (0:Int),.int .u8 (0:Int),.int .u8 (0:Int),.int .u8 (0:Int)],.val (.int .i64 (1:Int))]))):=by kernel_rfl
theorem Tb [Env] (A:Nat→List SV→Prop) (Q:V→Prop) (x:Int) (c:Nat→Int):WL Tryz.prog 268 Tryz.f268 mF 0 im A (fun v _=>Q v) 0 [.val (.int .u64 x),.box [.int .u8 (c 0),.int .u8 (0:Int),.int .u8 (0:Int),.int .u8 (0:Int),.int .u8 (0:Int),.int .u8 (0:Int),.int .u8 (0:Int),.int .u8 (0:Int)],.val (.int .i64 (1:Int))]=
  (((.i64:IntKind)=.i64∧(0≤(48:Int)∧A 0 [.val (.int .u64 x),.box [.int .u8 (c 0),.int .u8 (IntKind.u8.wrap (x.fdiv (2^min (48:Int).toNat IntKind.u64.bits))),.int .u8 (0:Int),.int .u8 (0:Int),.int .u8 (0:Int),.int .u8 (0:Int),.int .u8 (0:Int),.int .u8 (0:Int)],.val (.int .i64 (2:Int))]))):=by kernel_rfl
theorem Tc [Env] (A:Nat→List SV→Prop) (Q:V→Prop) (x:Int) (c:Nat→Int):WL Tryz.prog 268 Tryz.f268 mF 0 im A (fun v _=>Q v) 0 [.val (.int .u64 x),.box [.int .u8 (c 0),.int .u8 (c 1),.int .u8 (0:Int),.int .u8 (0:Int),.int .u8 (0:Int),.int .u8 (0:Int),.int .u8 (0:Int),.int .u8 (0:Int)],.val (.int .i64 (2:Int))]=
  (((.i64:IntKind)=.i64∧(0≤(40:Int)∧A 0 [.val (.int .u64 x),.box [.int .u8 (c 0),.int .u8 (c 1),.int .u8 (IntKind.u8.wrap (x.fdiv (2^min (40:Int).toNat IntKind.u64.bits))),.int .u8 (0:Int),.int .u8 (0:Int),.int .u8 (0:Int),.int .u8 (0:Int),.int .u8 (0:Int)],.val (.int .i64 (3:Int))]))):=by kernel_rfl
theorem Td [Env] (A:Nat→List SV→Prop) (Q:V→Prop) (x:Int) (c:Nat→Int):WL Tryz.prog 268 Tryz.f268 mF 0 im A (fun v _=>Q v) 0 [.val (.int .u64 x),.box [.int .u8 (c 0),.int .u8 (c 1),.int .u8 (c 2),.int .u8 (0:Int),.int .u8 (0:Int),.int .u8 (0:Int),.int .u8 (0:Int),.int .u8 (0:Int)],.val (.int .i64 (3:Int))]=
  (((.i64:IntKind)=.i64∧(0≤(32:Int)∧A 0 [.val (.int .u64 x),.box [.int .u8 (c 0),.int .u8 (c 1),.int .u8 (c 2),.int .u8 (IntKind.u8.wrap (x.fdiv (2^min (32:Int).toNat IntKind.u64.bits))),.int .u8 (0:Int),.int .u8 (0:Int),.int .u8 (0:Int),.int .u8 (0:Int)],.val (.int .i64 (4:Int))]))):=by kernel_rfl
theorem Te [Env] (A:Nat→List SV→Prop) (Q:V→Prop) (x:Int) (c:Nat→Int):WL Tryz.prog 268 Tryz.f268 mF 0 im A (fun v _=>Q v) 0 [.val (.int .u64 x),.box [.int .u8 (c 0),.int .u8 (c 1),.int .u8 (c 2),.int .u8 (c 3),.int .u8 (0:Int),.int .u8 (0:Int),.int .u8 (0:Int),.int .u8 (0:Int)],.val (.int .i64 (4:Int))]=
  (((.i64:IntKind)=.i64∧(0≤(24:Int)∧A 0 [.val (.int .u64 x),.box [.int .u8 (c 0),.int .u8 (c 1),.int .u8 (c 2),.int .u8 (c 3),.int .u8 (IntKind.u8.wrap (x.fdiv (2^min (24:Int).toNat IntKind.u64.bits))),.int .u8 (0:Int),.int .u8 (0:Int),.int .u8 (0:Int)],.val (.int .i64 (5:Int))]))):=by kernel_rfl
theorem Tf [Env] (A:Nat→List SV→Prop) (Q:V→Prop) (x:Int) (c:Nat→Int):WL Tryz.prog 268 Tryz.f268 mF 0 im A (fun v _=>Q v) 0 [.val (.int .u64 x),.box [.int .u8 (c 0),.int .u8 (c 1),.int .u8 (c 2),.int .u8 (c 3),.int .u8 (c 4),.int .u8 (0:Int),.int .u8 (0:Int),.int .u8 (0:Int)],.val (.int .i64 (5:Int))]=
  (((.i64:IntKind)=.i64∧(0≤(16:Int)∧A 0 [.val (.int .u64 x),.box [.int .u8 (c 0),.int .u8 (c 1),.int .u8 (c 2),.int .u8 (c 3),.int .u8 (c 4),.int .u8 (IntKind.u8.wrap (x.fdiv (2^min (16:Int).toNat IntKind.u64.bits))),.int .u8 (0:Int),.int .u8 (0:Int)],.val (.int .i64 (6:Int))]))):=by kernel_rfl
theorem Tg [Env] (A:Nat→List SV→Prop) (Q:V→Prop) (x:Int) (c:Nat→Int):WL Tryz.prog 268 Tryz.f268 mF 0 im A (fun v _=>Q v) 0 [.val (.int .u64 x),.box [.int .u8 (c 0),.int .u8 (c 1),.int .u8 (c 2),.int .u8 (c 3),.int .u8 (c 4),.int .u8 (c 5),.int .u8 (0:Int),.int .u8 (0:Int)],.val (.int .i64 (6:Int))]=
  (((.i64:IntKind)=.i64∧(0≤(8:Int)∧A 0 [.val (.int .u64 x),.box [.int .u8 (c 0),.int .u8 (c 1),.int .u8 (c 2),.int .u8 (c 3),.int .u8 (c 4),.int .u8 (c 5),.int .u8 (IntKind.u8.wrap (x.fdiv (2^min (8:Int).toNat IntKind.u64.bits))),.int .u8 (0:Int)],.val (.int .i64 (7:Int))]))):=by kernel_rfl
theorem Th [Env] (A:Nat→List SV→Prop) (Q:V→Prop) (x:Int) (c:Nat→Int):WL Tryz.prog 268 Tryz.f268 mF 0 im A (fun v _=>Q v) 0 [.val (.int .u64 x),.box [.int .u8 (c 0),.int .u8 (c 1),.int .u8 (c 2),.int .u8 (c 3),.int .u8 (c 4),.int .u8 (c 5),.int .u8 (c 6),.int .u8 (0:Int)],.val (.int .i64 (7:Int))]=
  (((.i64:IntKind)=.i64∧(0≤(0:Int)∧A 0 [.val (.int .u64 x),.box [.int .u8 (c 0),.int .u8 (c 1),.int .u8 (c 2),.int .u8 (c 3),.int .u8 (c 4),.int .u8 (c 5),.int .u8 (c 6),.int .u8 (IntKind.u8.wrap (x.fdiv (2^min (0:Int).toNat IntKind.u64.bits)))],.val (.int .i64 (8:Int))]))):=by kernel_rfl
theorem Ti [Env] (A:Nat→List SV→Prop) (Q:V→Prop) (x:Int) (c:Nat→Int):WL Tryz.prog 268 Tryz.f268 mF 0 im A (fun v _=>Q v) 0 [.val (.int .u64 x),.box [.int .u8 (c 0),.int .u8 (c 1),.int .u8 (c 2),.int .u8 (c 3),.int .u8 (c 4),.int .u8 (c 5),.int .u8 (c 6),.int .u8 (c 7)],.val (.int .i64 (8:Int))]=
  (((.i64:IntKind)=.i64∧Q (.str ([UInt8.ofNat (c 0).toNat,UInt8.ofNat (c 1).toNat,UInt8.ofNat (c 2).toNat,UInt8.ofNat (c 3).toNat,UInt8.ofNat (c 4).toNat,UInt8.ofNat (c 5).toNat,UInt8.ofNat (c 6).toNat,UInt8.ofNat (c 7).toNat])))):=by kernel_rfl
def MG [Env] (vs:List V) (σ:St) (k:ah):Prop:=
 match vs with
 | [.int .u64 x]=>k (.str (ny x 8)) σ
 | _=>False
def zE [Env]:=kS 268 MG mF
end Go.Proofs.YtbajncpfmemdgaaGreatDoor
end
