/- Proved: parts of the way: BP7, BP8, BP9, BP10, BEq4, BEq5, BEq6, BP11, BP12, BP13, BP14, BEq7, BEq8, BP15, Awk13T0, Awk13T1, Awk13Run, BP16. -/
import Derived.Test.YtbajncpfmemdgaaGreatDoorEvQ16
import Derived.Test.YtbajncpfmemdgaaGreatDoorEvQ15
import Derived.Test.YtbajncpfmemdgaaGreatDoorProg
import Derived.Test.YtbajncpfmemdgaaGreatDoorEvQ11
import Derived.ProofKit
section
namespace Go.Proofs.YtbajncpfmemdgaaGreatDoor
open Go Go.Ev Go.IntWalk
section
variable [Env] {vs:List V} {σ:St} {k:ah}
theorem pq {n:Nat} {h:Nat→List UInt8} {l:List SV} (hl:∀u∈l,u.clean):∀u∈SV.val (V.arr n (fun i=>V.str (h i)) 1 false false)::l,u.clean:=aN (mh n h) hl
def agv (s:List UInt8) (n:Nat) (q:Nat→List UInt8):Nat→List SV→Prop
 | 0,ss=>∃i:Nat,i≤n∧ss=[.val (.str s),.val (.int .i64 (k0 s q i)),.val (V.arr n (fun i=>V.str (q i)) 1 false false),.val (.int .i64 ((n:Nat):Int)),.val (.int .i64 i)]
 | _,_=>False
theorem Vw (h:QH vs σ k):ag Tryz.prog 222 vs k σ:=by
 unfold QH at h
 split at h
 ·rename_i s n f
  obtain⟨q,rfl,hn,h⟩:=h
  refine ag.cj (av (Go.Ev.Clean.str _) (av (mh n q) aM)) (.int _ _) ?_ h
  refine F222.cf (live:=AX) (call:=E6) (n₀:=0) (σ:=Go.Ev.start) (fun h=>Iu h) rfl 1 (by kernel_rfl) Nat.lt_wfRel.wf (fun _ ss=>n-cb ss) (agv s n q) ?_ ?_ ?_
  ·intro k ss hI
   cases k with
   | zero=>obtain⟨i,_,rfl⟩:=hI;exact gD (aG (pq (aG (aG bG))))
   | succ k=>exact hI.elim
  ·rw[af2]
   exact⟨0,by omega,rfl⟩
  ·intro k hk ss hI
   obtain rfl:k=0:=by omega
   obtain⟨i,hi,rfl⟩:=hI
   have hc:=A8 s q i
   rw[af3]
   refine⟨rfl,aq (fun h1=>⟨⟨by omega,by omega⟩,aq (fun h2=>?_) fun h2=>?_⟩) fun h1=>?_⟩
   ·rw[dJ] at h2
    rw[i64_in ((i:Int)+1) (by omega),i64_in (k0 s q i+1) (by omega)]
    refine⟨⟨i+1,by omega,?_⟩,?_⟩
    ·show _=[_,SV.val (.int .i64 (k0 s q i+if q i=s then 1 else 0)),_,_,_]
     rw[if_pos h2];rfl
    ·show n-((i:Int)+1).toNat<n-(i:Int).toNat
     omega
   ·rw[dJ] at h2
    rw[i64_in ((i:Int)+1) (by omega)]
    refine⟨⟨i+1,by omega,?_⟩,?_⟩
    ·show _=[_,SV.val (.int .i64 (k0 s q i+if q i=s then 1 else 0)),_,_,_]
     rw[if_neg h2,Int.add_zero];rfl
    ·show n-((i:Int)+1).toNat<n-(i:Int).toNat
     omega
   ·obtain rfl:i=n:=by omega
    rfl
 ·exact h.elim
theorem Iv:∀ {f:FuncId} {vs:List V} {σ:St} {k:ah},E7 f vs σ k→ag Tryz.prog f vs k σ:=fun h=>aH Vw Iu h
def agw (n:Nat) (q:Nat→List UInt8):Nat→List SV→Prop
 | 0,ss=>∃i:Nat,i≤n∧(∀j,j<i→k0 (q j) q n≤1)∧ss=[.val (V.arr n (fun i=>V.str (q i)) 1 false false),.val (V.arr n (fun i=>V.str (q i)) 1 false false),.val (.int .i64 ((n:Nat):Int)),.val (.int .i64 i)]
 | _,_=>False
theorem Vx (h:QI vs σ k):ag Tryz.prog 178 vs k σ:=by
 unfold QI at h
 split at h
 ·rename_i n f
  obtain⟨q,rfl,hn,h⟩:=h
  refine ag.cj (av (mh n q) aM) (.bool _) ?_ h
  refine F178.cf (live:=AY) (call:=E7) (n₀:=0) (σ:=Go.Ev.start) (fun h=>Iv h) rfl 1 (by kernel_rfl) Nat.lt_wfRel.wf (fun _ ss=>n-cb ss) (agw n q) ?_ ?_ ?_
  ·intro k ss hI
   cases k with
   | zero=>obtain⟨i,_,_,rfl⟩:=hI;exact pq (pq (aG (aG bG)))
   | succ k=>exact hI.elim
  ·rw[af4]
   exact⟨0,by omega,fun j hj=>absurd hj (Nat.not_lt_zero j),rfl⟩
  ·intro k hk ss hI
   obtain rfl:k=0:=by omega
   obtain⟨i,hi,hj,rfl⟩:=hI
   rw[af5]
   refine⟨rfl,aq (fun h1=>⟨⟨by omega,by omega⟩,q,rfl,hn,rfl,aq (fun h2=>?_) fun h2=>?_⟩) fun h1=>?_⟩
   ·rw[dJ] at h2
    have:gh q n=false:=by
     cases hu:gh q n with
     | false=>rfl
     | true=>
      obtain⟨a,b,xA,hb,e1,e2⟩:=(yh (q i) q n).1 h2
      exact absurd (e1.trans e2.symm) ((om q n).1 hu a b xA hb)
    rw[this]
   ·rw[dJ] at h2
    rw[i64_in ((i:Int)+1) (by omega)]
    refine⟨⟨i+1,by omega,fun j gS=>?_,rfl⟩,?_⟩
    ·by_cases e:j=i
     ·rw[e];omega
     ·exact hj j (by omega)
    ·show n-((i:Int)+1).toNat<n-(i:Int).toNat
     omega
   ·obtain rfl:i=n:=by omega
    have:gh q i=true:=(om q i).2 fun a b xA hb e=>by
     have:=hj b hb
     have:=(yh (q b) q i).2 ⟨a,b,xA,hb,e,rfl⟩
     omega
    rw[this]
 ·exact h.elim
theorem Iw:∀ {f:FuncId} {vs:List V} {σ:St} {k:ah},E8 f vs σ k→ag Tryz.prog f vs k σ:=fun h=>aH Vx Iv h
def I42 (s:List UInt8) (n:Nat) (q:Nat→List UInt8):Nat→List SV→Prop
 | 0,ss=>∃i:Nat,i≤n∧(∀j,j<i→q j≠s)∧ss=[.val (V.arr n (fun i=>V.str (q i)) 1 false false),.val (.str s),.val (.int .i64 i)]
 | _,_=>False
theorem YL (h:Yt vs σ k):ag Tryz.prog 42 vs k σ:=by
 unfold Yt at h
 split at h
 ·rename_i n f s
  obtain⟨q,rfl,hn,h⟩:=h
  refine ag.cj (av (mh n q) (av (Go.Ev.Clean.str _) aM)) (.int _ _) ?_ h
  refine F42.cf (live:=E9) (call:=E8) (n₀:=0) (σ:=Go.Ev.start) (fun h=>Iw h) rfl 1 (by kernel_rfl) Nat.lt_wfRel.wf (fun _ ss=>n-cb ss) (I42 s n q) ?_ ?_ ?_
  ·intro k ss hI
   cases k with
   | zero=>obtain⟨i,_,_,rfl⟩:=hI;exact pq (gD (aG bG))
   | succ k=>exact hI.elim
  ·rw[e42]
   exact⟨0,by omega,fun j hj=>absurd hj (Nat.not_lt_zero j),rfl⟩
  ·intro k hk ss hI
   obtain rfl:k=0:=by omega
   obtain⟨i,hi,hj,rfl⟩:=hI
   rw[r42]
   refine⟨rfl,aq (fun h1=>⟨⟨by omega,by omega⟩,aq (fun h2=>?_) fun h2=>?_⟩) fun h1=>?_⟩
   ·rw[dJ] at h2
    rw[kU s q n i (by omega) h2 hj]
   ·rw[dJ] at h2
    rw[i64_in ((i:Int)+1) (by omega)]
    refine⟨⟨i+1,by omega,fun j gS=>?_,rfl⟩,?_⟩
    ·by_cases e:j=i
     ·rw[e];exact h2
     ·exact hj j (by omega)
    ·show n-((i:Int)+1).toNat<n-(i:Int).toNat
     omega
   ·obtain rfl:i=n:=by omega
    rw[iI s q i hj]
 ·exact h.elim
theorem Ix:∀ {f:FuncId} {vs:List V} {σ:St} {k:ah},Fa f vs σ k→ag Tryz.prog f vs k σ:=fun h=>aH YL Iw h
def agx (n:Nat) (q:Nat→List UInt8):Nat→List SV→Prop
 | 0,ss=>∃i:Nat,i≤n∧(∀a b,a<b→b<i→q a≠q b)∧ss=[.val (V.arr n (fun i=>V.str (q i)) 1 false false),.val (.int .i64 i)]
 | _,_=>False
theorem Vy (h:QJ vs σ k):ag Tryz.prog 108 vs k σ:=by
 unfold QJ at h
 split at h
 ·rename_i n f
  obtain⟨q,rfl,hn,h⟩:=h
  refine ag.cj (av (mh n q) aM) (.bool _) ?_ h
  refine F108.cf (live:=AZ) (call:=Fa) (n₀:=0) (σ:=Go.Ev.start) (fun h=>Ix h) rfl 1 (by kernel_rfl) Nat.lt_wfRel.wf (fun _ ss=>n-cb ss) (agx n q) ?_ ?_ ?_
  ·intro k ss hI
   cases k with
   | zero=>obtain⟨i,_,_,rfl⟩:=hI;exact pq (aG bG)
   | succ k=>exact hI.elim
  ·rw[af6]
   exact⟨0,by omega,fun a b _ hb=>absurd hb (Nat.not_lt_zero b),rfl⟩
  ·intro k hk ss hI
   obtain rfl:k=0:=by omega
   obtain⟨i,hi,hj,rfl⟩:=hI
   rw[af7]
   refine⟨rfl,aq (fun h1=>⟨⟨by omega,by omega⟩,q,rfl,hn,rfl,aq (fun h2=>?_) fun h2=>?_⟩) fun h1=>?_⟩
   ·rw[dJ] at h2
    have:gh q n=false:=by
     cases hu:gh q n with
     | false=>rfl
     | true=>
      rcases lx (q i) q n with ⟨_,h3⟩ | ⟨m,hm,Xo,e,hl⟩
      ·exact absurd rfl (h3 i (by omega))
      ·rw[hm] at h2
       have bS:m≠i:=fun e=>h2 (by rw[e])
       rcases Nat.lt_or_gt_of_ne bS with bE | OG
       ·exact absurd e ((om q n).1 hu m i bE (by omega))
       ·exact absurd rfl (hl i OG)
    rw[this]
   ·rw[dJ] at h2
    rw[i64_in ((i:Int)+1) (by omega)]
    refine⟨⟨i+1,by omega,fun a b xA hb=>?_,rfl⟩,?_⟩
    ·by_cases e:b=i
     ·subst e
      intro hq
      rcases lx (q b) q n with ⟨_,h3⟩ | ⟨m,hm,Xo,e,hl⟩
      ·exact absurd rfl (h3 b (by omega))
      ·have:ct (q b) q n=b:=Decidable.not_not.1 h2
       rw[hm] at this
       obtain rfl:m=b:=by omega
       exact absurd hq (hl a xA)
     ·exact hj a b xA (by omega)
    ·show n-((i:Int)+1).toNat<n-(i:Int).toNat
     omega
   ·obtain rfl:i=n:=by omega
    rw[(om q i).2 hj]
 ·exact h.elim
theorem Iy:∀ {f:FuncId} {vs:List V} {σ:St} {k:ah},Fb f vs σ k→ag Tryz.prog f vs k σ:=fun h=>aH Vy Ix h
end
end Go.Proofs.YtbajncpfmemdgaaGreatDoor
end
section
namespace Go.Proofs.YtbajncpfmemdgaaGreatDoor
open Go Go.Ev Go.IntWalk
theorem F179:bl Tryz.prog 179 Tryz.f179:=.of (by kernel_rfl) (by kernel_rfl)
theorem F109:bl Tryz.prog 109 Tryz.f109:=.of (by kernel_rfl) (by kernel_rfl)
theorem F181:bl Tryz.prog 181 Tryz.f181:=.of (by kernel_rfl) (by kernel_rfl)
theorem F223:bl Tryz.prog 223 Tryz.f223:=.of (by kernel_rfl) (by kernel_rfl)
theorem F180:bl Tryz.prog 180 Tryz.f180:=.of (by kernel_rfl) (by kernel_rfl)
theorem F177:bl Tryz.prog 177 Tryz.f177:=.of (by kernel_rfl) (by kernel_rfl)
theorem F107:bl Tryz.prog 107 Tryz.f107:=.of (by kernel_rfl) (by kernel_rfl)
theorem F134:bl Tryz.prog 134 Tryz.f134:=.of (by kernel_rfl) (by kernel_rfl)
theorem F81:bl Tryz.prog 81 Tryz.f81:=.of (by kernel_rfl) (by kernel_rfl)
theorem F57:bl Tryz.prog 57 Tryz.f57:=.of (by kernel_rfl) (by kernel_rfl)
section
theorem wY (f:Nat→V) (i:Nat) (v:V):e9 f i v i=v:=by
 show(Bool.rec (f i) v (Nat.beq i i):V)=v
 rw[Nat.beq_refl]
theorem wZ (f:Nat→V) {i j:Nat} (v:V) (h:j≠i):e9 f i v j=f j:=by
 show(Bool.rec (f j) v (Nat.beq j i):V)=f j
 have:Nat.beq j i=false:=by
  cases hb:Nat.beq j i with
  | false=>rfl
  | true=>exact absurd (Nat.eq_of_beq_eq_true hb) h
 rw[this]
theorem A9 {n j:Nat} (f g:Nat→V) (h:j<n):dL n f g j=f j:=by
 show(Bool.rec (g (Nat.sub j n)) (f j) (Nat.blt j n):V)=f j
 have:Nat.blt j n=true:=Nat.ble_eq_true_of_le h
 rw[this]
theorem Ba (n:Nat) (f g:Nat→V):dL n f g n=g 0:=by
 show(Bool.rec (g (Nat.sub n n)) (f n) (Nat.blt n n):V)=g 0
 have:Nat.blt n n=false:=by
  cases hb:Nat.blt n n with
  | false=>rfl
  | true=>exact absurd (Nat.le_of_ble_eq_true hb) (Nat.not_succ_le_self n)
 rw[this]
 exact congrArg g (Nat.sub_self n)
variable [Env] {vs:List V} {σ:St} {k:ah}
theorem sq (n:Nat) (q:Nat→aj):Go.Ev.Clean (V.arr n (fun i=>aj.enc (q i)) 7 false false):=
 Go.Ev.Clean.arr fun i _ u hu=>(q i).clean u hu
theorem w1 {n:Nat} {q:Nat→aj} {l:List SV} (hl:∀u∈l,u.clean):∀u∈SV.val (V.arr n (fun i=>aj.enc (q i)) 7 false false)::l,u.clean:=aN (sq n q) hl
theorem OH {n:Nat} {f:Nat→V} {l:List SV} (h:∀i,i<n→∃t,(f i).cells=[V.str t]) (hl:∀u∈l,u.clean):∀u∈SV.row n f 1::l,u.clean:=aN (fun i hi u hu=>by
 obtain⟨t,ht⟩:=h i hi
 rw[ht,List.mem_singleton] at hu
 subst hu;exact Go.Ev.Clean.str _) hl
theorem Fh {n:Nat} {f:Nat→V} {q:Nat→aj} {b:Nat} {τ:St} {p:Bool} (hb:τ.heap.get b=some (.row n f 1 p)) (h:∀i,i<n→(f i).cells=[V.str (q i).f0]):ey τ (.own b n 1) (.arr n (fun i=>V.str (q i).f0) 1 false false):=
 .own hb (fun i hi=>by rw[h i hi];exact .cons (.str _) .nil) fun _ _=>rfl
def agy (n:Nat) (q:Nat→aj):Nat→List SV→Prop
 | 0,ss=>∃(i:Nat) (f:Nat→V),i≤n∧(∀j,j<n→∃t,(f j).cells=[V.str t])∧(∀j,j<i→(f j).cells=[V.str (q j).f0])∧ss=[.row n f 1,.val (V.arr n (fun i=>aj.enc (q i)) 7 false false),.val (.int .i64 ((n:Nat):Int)),.val (.int .i64 i)]
 | _,_=>False
theorem Vz (h:QK vs σ k):ag Tryz.prog 179 vs k σ:=by
 unfold QK at h
 split at h
 ·rename_i n f
  obtain⟨q,rfl,hn,h⟩:=h
  refine(ag.zB (Q:=fun u=>u=.arr n (fun i=>V.str (q i).f0) 1 false false) (aC (sq n q) cJ) ?_).mono fun v τ ⟨h1,h2⟩=>by subst h1;subst h2;exact h
  refine F179.cf (live:=A0) (call:=Fb) (n₀:=0) (σ:=Go.Ev.start) (fun h=>Iy h) rfl 1 (by kernel_rfl) Nat.lt_wfRel.wf (fun _ ss=>n-cb ss) (agy n q) ?_ ?_ ?_
  ·intro k ss hI
   cases k with
   | zero=>obtain⟨i,f,_,hf,_,rfl⟩:=hI;exact OH hf (w1 (aG (aG bG)))
   | succ k=>exact hI.elim
  ·rw[af8]
   simp only[Int.toNat_natCast]
   exact⟨⟨by omega,by omega,by omega,by omega⟩,⟨Nat.le_refl _,trivial⟩,0,_,by omega,fun j _=>⟨[],rfl⟩,fun j hj=>absurd hj (Nat.not_lt_zero j),rfl⟩
  ·intro k hk ss hI
   obtain rfl:k=0:=by omega
   obtain⟨i,f,hi,hf,hj,rfl⟩:=hI
   rw[af9]
   refine⟨rfl,aq (fun h1=>⟨⟨by omega,by omega⟩,⟨by omega,by omega⟩,by rw[dJ];omega,⟨rfl,rfl⟩,?_⟩) fun h1=>?_⟩
   ·rw[dJ,i64_in ((i:Int)+1) (by omega)]
    refine⟨⟨i+1,_,by omega,fun j Uc=>?_,fun j gS=>?_,rfl⟩,?_⟩
    ·by_cases e:j=i
     ·subst e;exact⟨_,by rw[wY];rfl⟩
     ·rw[wZ _ _ e];exact hf j Uc
    ·by_cases e:j=i
     ·subst e;rw[wY];rfl
     ·rw[wZ _ _ e];exact hj j (by omega)
    ·show n-((i:Int)+1).toNat<n-(i:Int).toNat
     omega
   ·obtain rfl:i=n:=by omega
    refine⟨_,Fh (p:=false) ?_ hj,rfl⟩
    show(St.new Go.Ev.start 0 (.row i f 1 false)).heap.get 0=_
    rw[iq,if_pos rfl]
 ·exact h.elim
theorem Iz:∀ {f:FuncId} {vs:List V} {σ:St} {k:ah},A1 f vs σ k→ag Tryz.prog f vs k σ:=fun h=>aH Vz Iy h
def agz (n:Nat) (q:Nat→aj):Nat→List SV→Prop
 | 0,ss=>(ss=[.val (V.arr n (fun i=>aj.enc (q i)) 7 false false),.val .ak,.val (.int .i64 (0:Int))])∨
   ∃(i:Nat) (f:Nat→V),0<i∧i≤n∧(∀j,j<i→(f j).cells=[V.str (q j).f0])∧ss=[.val (V.arr n (fun i=>aj.enc (q i)) 7 false false),.row i f 1,.val (.int .i64 i)]
 | _,_=>False
theorem VA (h:QL vs σ k):ag Tryz.prog 109 vs k σ:=by
 unfold QL at h
 split at h
 ·rename_i n f
  obtain⟨q,rfl,hn,h⟩:=h
  refine(ag.zB (Q:=fun u=>u=.arr n (fun i=>V.str (q i).f0) 1 false false) (aC (sq n q) cJ) ?_).mono fun v τ ⟨h1,h2⟩=>by subst h1;subst h2;exact h
  refine F109.cf (live:=wX) (call:=A1) (n₀:=0) (σ:=Go.Ev.start) (fun h=>Iz h) rfl 1 (by kernel_rfl) Nat.lt_wfRel.wf (fun _ ss=>n-cb ss) (agz n q) ?_ ?_ ?_
  ·intro k ss hI
   cases k with
   | zero=>
    rcases hI with rfl | ⟨i,f,_,_,hf,rfl⟩
    ·exact w1 (aN Go.Ev.Clean.ak (aG bG))
    ·exact w1 (OH (fun j hj=>⟨_,hf j hj⟩) (aG bG))
   | succ k=>exact hI.elim
  ·rw[aga]
   exact .inl rfl
  ·intro k hk ss hI
   obtain rfl:k=0:=by omega
   rcases hI with rfl | ⟨i,f,h0,hi,hf,rfl⟩
   ·rw[acH]
    refine⟨rfl,aq (fun h1=>⟨⟨by omega,by omega⟩,⟨rfl,rfl,rfl⟩,?_⟩) fun h1=>?_⟩
    ·rw[show(0:Int).toNat=0 from rfl,i64_in ((0:Int)+1) (by omega)]
     refine⟨.inr ⟨1,_,by omega,by omega,fun j hj=>?_,rfl⟩,?_⟩
     ·obtain rfl:j=0:=by omega
      rfl
     ·show n-((0:Int)+1).toNat<n-(0:Int).toNat
      omega
    ·obtain rfl:n=0:=by omega
     exact⟨_,.kR (.empty _ _),rfl⟩
   ·rw[acI]
    refine⟨rfl,aq (fun h1=>⟨⟨by omega,by omega⟩,⟨rfl,by omega⟩,⟨rfl,rfl⟩,?_⟩) fun h1=>?_⟩
    ·rw[dJ,i64_in ((i:Int)+1) (by omega)]
     refine⟨.inr ⟨i+1,_,by omega,by omega,fun j hj=>?_,rfl⟩,?_⟩
     ·by_cases e:j=i
      ·subst e;rw[Ba];rfl
      ·rw[A9 _ _ (by omega)];exact hf j (by omega)
     ·show n-((i:Int)+1).toNat<n-(i:Int).toNat
      omega
    ·obtain rfl:i=n:=by omega
     refine⟨_,Fh (p:=false) ?_ hf,rfl⟩
     show(St.new Go.Ev.start 0 (.row i f 1 false)).heap.get 0=_
     rw[iq,if_pos rfl]
 ·exact h.elim
theorem IA:∀ {f:FuncId} {vs:List V} {σ:St} {k:ah},LJ f vs σ k→ag Tryz.prog f vs k σ:=fun h=>aH VA Iz h
theorem VB (h:QM vs σ k):ag Tryz.prog 181 vs k σ:=by
 unfold QM at h
 obtain⟨⟨e,rfl⟩,h⟩:=h
 have h:k (.bool e.f2) σ:=h
 refine ag.cj (av e.aJ aM) (.bool _) (F181.flat (live:=Ia) (call:=LJ) (n₀:=0) (σ:=Go.Ev.start) (fun h=>IA h) rfl (by kernel_rfl) ?_) h
 rw[agb]
theorem IB:∀ {f:FuncId} {vs:List V} {σ:St} {k:ah},Fc f vs σ k→ag Tryz.prog f vs k σ:=fun h=>aH VB IA h
omit [Env] in
theorem ly (q:Nat→aj):∀n,eU q n=true↔∃i,i<n∧(q i).f2=true
 | 0=>⟨fun h=>(by cases h),fun⟨i,hi,_⟩=>absurd hi (Nat.not_lt_zero i)⟩
 | n+1=>by
  show(eU q n||(q n).f2)=true↔_
  rw[Bool.or_eq_true,ly q n]
  constructor
  ·rintro(⟨i,hi,e⟩ | e)
   ·exact⟨i,by omega,e⟩
   ·exact⟨n,by omega,e⟩
  ·rintro⟨i,hi,e⟩
   by_cases cW:i=n
   ·subst cW;exact .inr e
   ·exact .inl ⟨i,by omega,e⟩
def agA (n:Nat) (q:Nat→aj):Nat→List SV→Prop
 | 0,ss=>∃i:Nat,i≤n∧(∀j,j<i→(q j).f2=false)∧ss=[.val (V.arr n (fun i=>aj.enc (q i)) 7 false false),.val (.func (.func 181) [] []),.val (.int .i64 ((n:Nat):Int)),.val (.int .i64 i)]
 | _,_=>False
def agB (n:Nat) (q:Nat→aj) (v:V):Prop:=∃c:Int,(0≤c↔eU q n=true)∧v=.int .i64 c
theorem VC (h:QN vs σ k):ag Tryz.prog 223 vs k σ:=by
 unfold QN at h
 split at h
 ·rename_i n f
  obtain⟨q,rfl,hn,h⟩:=h
  refine ag.bc (A:=agB n q) (av (sq n q) (av (Go.Ev.Clean.func 181) aM)) (fun v hv=>by obtain⟨c,_,rfl⟩:=hv;exact .int _ _)
   (F223.cf (live:=A2) (call:=Fc) (n₀:=0) (σ:=Go.Ev.start) (fun h=>IB h) rfl 1 (by kernel_rfl) Nat.lt_wfRel.wf (fun _ ss=>n-cb ss) (agA n q) ?_ ?_ ?_) fun v hv=>by obtain⟨c,hc,rfl⟩:=hv;exact h c hc
  ·intro k ss hI
   cases k with
   | zero=>obtain⟨i,_,_,rfl⟩:=hI;exact w1 (aN (Go.Ev.Clean.func 181) (aG (aG bG)))
   | succ k=>exact hI.elim
  ·rw[agc]
   exact⟨0,by omega,fun j hj=>absurd hj (Nat.not_lt_zero j),rfl⟩
  ·intro k hk ss hI
   obtain rfl:k=0:=by omega
   obtain⟨i,hi,hj,rfl⟩:=hI
   rw[agd]
   refine⟨rfl,aq (fun h1=>⟨⟨by omega,by omega⟩,⟨_,rfl⟩,aa.mk (fun h2=>?_) fun h2=>?_⟩) fun h1=>?_⟩
   ·rw[dJ] at h2
    exact⟨i,⟨fun _=>(ly q n).2 ⟨i,by omega,h2⟩,fun _=>by omega⟩,rfl⟩
   ·rw[dJ] at h2
    rw[i64_in ((i:Int)+1) (by omega)]
    refine⟨⟨i+1,by omega,fun j gS=>?_,rfl⟩,?_⟩
    ·by_cases e:j=i
     ·subst e;exact h2
     ·exact hj j (by omega)
    ·show n-((i:Int)+1).toNat<n-(i:Int).toNat
     omega
   ·obtain rfl:i=n:=by omega
    refine⟨-1,⟨fun h=>by omega,fun h=>?_⟩,rfl⟩
    obtain⟨j,Uc,e⟩:=(ly q i).1 h
    rw[hj j Uc] at e;cases e
 ·exact h.elim
theorem IC:∀ {f:FuncId} {vs:List V} {σ:St} {k:ah},LK f vs σ k→ag Tryz.prog f vs k σ:=fun h=>aH VC IB h
theorem VD (h:QO vs σ k):ag Tryz.prog 180 vs k σ:=by
 unfold QO at h
 split at h
 ·rename_i n f
  obtain⟨q,rfl,hn,h⟩:=h
  refine ag.cj (av (sq n q) (av (Go.Ev.Clean.func 181) aM)) (.bool _) (F180.flat (live:=Ib) (call:=LK) (n₀:=0) (σ:=Go.Ev.start) (fun h=>IC h) rfl (by kernel_rfl) ?_) h
  rw[age]
  refine⟨q,rfl,hn,fun c hc=>⟨rfl,aq (fun h1=>?_) fun h1=>?_⟩⟩
  ·rw[hc.1 h1]
  ·have:eU q n=false:=by
    cases hb:eU q n with
    | false=>rfl
    | true=>exact absurd (hc.2 hb) h1
   rw[this]
 ·exact h.elim
theorem ID:∀ {f:FuncId} {vs:List V} {σ:St} {k:ah},LL f vs σ k→ag Tryz.prog f vs k σ:=fun h=>aH VD IC h
end
end Go.Proofs.YtbajncpfmemdgaaGreatDoor
end
section
namespace Go.Proofs.YtbajncpfmemdgaaGreatDoor
open Go Go.Ev Go.IntWalk
section
theorem cM (f:Nat→Int):∀n,dC f n=0↔∀i,i<n→f i=0
 | 0=>⟨fun _ i hi=>absurd hi (Nat.not_lt_zero i),fun _=>rfl⟩
 | n+1=>by
  show(if dC f n≠0 then dC f n else f n)=0↔_
  have ih:=cM f n
  by_cases h:dC f n=0
  ·rw[if_neg (by rw[h];exact fun h=>h rfl)]
   constructor
   ·intro e i hi
    by_cases cW:i=n
    ·rw[cW];exact e
    ·exact ih.1 h i (by omega)
   ·exact fun hh=>hh n (by omega)
  ·rw[if_pos h]
   exact⟨fun e=>absurd e h,fun hh=>absurd (ih.2 fun i hi=>hh i (by omega)) h⟩
theorem jt (f:Nat→Int):∀n i,i<n→f i≠0→(∀j,j<i→f j=0)→dC f n=f i
 | 0,i,hi,_,_=>absurd hi (Nat.not_lt_zero i)
 | n+1,i,hi,bS,hl=>by
  show(if dC f n≠0 then dC f n else f n)=f i
  by_cases e:i=n
  ·subst e
   rw[if_neg (by rw[(cM f i).2 hl];exact fun h=>h rfl)]
  ·have:=jt f n i (by omega) bS hl
   rw[this,if_pos bS]
theorem bn {α:Type} [Inhabited α] {l:List α} {i:Nat} (h:i<l.length):l.getD i default∈l:=by
 rw[List.getD_eq_getElem?_getD,List.getElem?_eq_getElem h]
 exact List.getElem_mem h
variable [Env] {vs:List V} {σ:St} {k:ah}
theorem YM (e:af):Go.Ev.Clean (ae aj.enc 7 e.f2):=e.clean _ (List.mem_cons_of_mem _ (List.mem_cons_of_mem _ List.mem_cons_self))
theorem Fi (e:af) {l:List SV} (hl:∀u∈l,u.clean):∀u∈SV.box [.str e.f0,.int .i64 e.f1,ae aj.enc 7 e.f2]::l,u.clean:=aN e.clean hl
def rl (n:Int) (v:V):Prop:=(n=0∧v=.bh)∨(n≠0∧v=.iface 216 (.agg [.int .i64 n]))
theorem rl.gK (n:Int):∀v,rl n v→eA v:=fun v hv=>by
 rcases hv with ⟨_,rfl⟩ | ⟨_,rfl⟩
 ·exact .bh
 ·exact .iface (.agg (bN (.int _ _) gn))
omit [Env] in
theorem rl.bad {n x:Int} (h:n=x) (hx:x≠0):rl n (.iface 216 (.agg [.int .i64 x])):=.inr ⟨by rw[h];exact hx,by rw[h]⟩
omit [Env] in
theorem rl.A6 {n:Int} (h:n=0):rl n .bh:=.inl ⟨h,rfl⟩
theorem VE (h:QP vs σ k):ag Tryz.prog 177 vs k σ:=by
 unfold QP at h
 obtain⟨e,rfl,cE,h⟩:=h
 refine ag.bc (A:=rl (bO e)) (av e.aJ aM) (rl.gK _) (F177.flat (live:=Ic) (call:=LL) (n₀:=0) (σ:=Go.Ev.start) (fun h=>ID h) rfl (by kernel_rfl) ?_) fun v hv=>by
  rcases hv with ⟨h1,rfl⟩ | ⟨h1,rfl⟩
  ·exact h.1 h1
  ·exact h.2 h1
 rw[agf]
 have hu:bO e=if aK e.f0≠0 then aK e.f0 else if e.f1<1∨e.f1>5 then 5 else if bp e.f3≠0 then bp e.f3 else if e.f3.f0≠0∧e.f3.f0≠e.f1 then 11 else 0:=rfl
 refine⟨rfl,aq (fun h1=>?_) fun h1=>⟨rfl,aq (fun h2=>?_) fun h2=>⟨rfl,aq (fun h3=>?_) fun h3=>⟨cE,rfl,aq (fun h4=>?_) fun h4=>⟨rfl,aq (fun h5=>⟨rfl,aq (fun h6=>?_) fun h6=>?_⟩) fun h5=>?_⟩⟩⟩⟩⟩
 ·exact .bad (by rw[hu,if_pos h1]) h1
 ·exact .bad (by rw[hu,if_neg h1,if_pos (.inl h2)]) (by decide)
 ·exact .bad (by rw[hu,if_neg h1,if_pos (.inr h3)]) (by decide)
 ·exact .bad (by rw[hu,if_neg h1,if_neg (by omega),if_pos h4]) h4
 ·exact .bad (by rw[hu,if_neg h1,if_neg (by omega),if_neg h4,if_pos ⟨h5,h6⟩]) (by decide)
 ·exact .A6 (by rw[hu,if_neg h1,if_neg (by omega),if_neg h4,if_neg fun hh=>h6 hh.2])
 ·exact .A6 (by rw[hu,if_neg h1,if_neg (by omega),if_neg h4,if_neg fun hh=>h5 hh.1])
theorem IE:∀ {f:FuncId} {vs:List V} {σ:St} {k:ah},LM f vs σ k→ag Tryz.prog f vs k σ:=fun h=>aH VE ID h
theorem VF (h:QQ vs σ k):ag Tryz.prog 107 vs k σ:=by
 unfold QQ at h
 obtain⟨e,rfl,cE,h⟩:=h
 refine ag.cj (av e.aJ aM) (.int _ _) (F107.flat (live:=Ie) (call:=LM) (n₀:=0) (σ:=Go.Ev.start) (fun h=>IE h) rfl (by kernel_rfl) ?_) h
 rw[agh]
 have hu:bO e=if aK e.f0≠0 then aK e.f0 else if e.f1<1∨e.f1>5 then 5 else if bp e.f3≠0 then bp e.f3 else if e.f3.f0≠0∧e.f3.f0≠e.f1 then 11 else 0:=rfl
 refine⟨rfl,aq (fun h1=>?_) fun h1=>⟨rfl,aq (fun h2=>?_) fun h2=>⟨rfl,aq (fun h3=>?_) fun h3=>⟨cE,rfl,aq (fun h4=>?_) fun h4=>⟨rfl,aq (fun h5=>⟨rfl,aq (fun h6=>?_) fun h6=>?_⟩) fun h5=>?_⟩⟩⟩⟩⟩
 ·rw[hu,if_pos h1]
 ·rw[hu,if_neg h1,if_pos (.inl h2)]
 ·rw[hu,if_neg h1,if_pos (.inr h3)]
 ·rw[hu,if_neg h1,if_neg (by omega),if_pos h4]
 ·rw[hu,if_neg h1,if_neg (by omega),if_neg h4,if_pos ⟨h5,h6⟩]
 ·rw[hu,if_neg h1,if_neg (by omega),if_neg h4,if_neg fun hh=>h6 hh.2]
 ·rw[hu,if_neg h1,if_neg (by omega),if_neg h4,if_neg fun hh=>h5 hh.1]
theorem IF:∀ {f:FuncId} {vs:List V} {σ:St} {k:ah},Fe f vs σ k→ag Tryz.prog f vs k σ:=fun h=>aH VF IE h
def eB (e:af) (i:Nat):aj:=e.f2.getD i default
omit [Env] in
theorem nA (e:af):bR e=if aK e.f0≠0 then aK e.f0 else if e.f2.length<1∨e.f2.length>8 then 2 else if e.f1<1∨e.f1>3∨e.f1>e.f2.length then 1
 else if dC (fun i=>bO (eB e i)) e.f2.length≠0 then dC (fun i=>bO (eB e i)) e.f2.length
 else if gh (fun i=>(eB e i).f0) e.f2.length=false then 12 else if eU (eB e) e.f1.toNat=true then 11 else 0:=rfl
def tG (e:af):Prop:=aK e.f0=0∧(1≤e.f2.length∧e.f2.length≤8)∧1≤e.f1∧e.f1≤3∧e.f1≤e.f2.length
omit [Env] in
theorem tG.err {e:af} (h:tG e):bR e=if dC (fun i=>bO (eB e i)) e.f2.length≠0 then dC (fun i=>bO (eB e i)) e.f2.length
 else if gh (fun i=>(eB e i).f0) e.f2.length=false then 12 else if eU (eB e) e.f1.toNat=true then 11 else 0:=by
 obtain⟨h1,⟨h2,h3⟩,h4,h5,h6⟩:=h
 rw[nA,if_neg (fun h=>h h1),if_neg (by omega),if_neg (by omega)]
def agC (e:af):Nat→List SV→Prop
 | 0,ss=>tG e∧∃i:Nat,i≤e.f2.length∧(∀j,j<i→bO (eB e j)=0)∧ss=[.box [.str e.f0,.int .i64 e.f1,ae aj.enc 7 e.f2],.val (ae aj.enc 7 e.f2),.val (.int .i64 ((e.f2.length:Nat):Int)),.val (.int .i64 i)]
 | _,_=>False
theorem VG (h:QR vs σ k):ag Tryz.prog 134 vs k σ:=by
 unfold QR at h
 obtain⟨e,rfl,cE,h⟩:=h
 refine ag.bc (A:=rl (bR e)) (av e.aJ aM) (rl.gK _) (F134.cf (live:=A3) (call:=Fe) (n₀:=0) (σ:=Go.Ev.start) (fun h=>IF h) rfl 1 (by kernel_rfl) Nat.lt_wfRel.wf (fun _ ss=>e.f2.length-cb ss) (agC e) ?_ ?_ ?_) fun v hv=>by
  rcases hv with ⟨h1,rfl⟩ | ⟨h1,rfl⟩
  ·exact h.1 h1
  ·exact h.2 h1
 ·intro k ss hI
  cases k with
  | zero=>obtain⟨_,i,_,_,rfl⟩:=hI;exact Fi e (aN (YM e) (aG (aG bG)))
  | succ k=>exact hI.elim
 ·rw[agi]
  refine⟨rfl,aq (fun h1=>?_) fun h1=>⟨rfl,aq (fun h2=>?_) fun h2=>⟨rfl,aq (fun h3=>?_) fun h3=>⟨rfl,aq (fun h4=>?_) fun h4=>⟨rfl,aq (fun h5=>?_) fun h5=>?_⟩⟩⟩⟩⟩
  ·exact .bad (by rw[nA,if_pos h1]) h1
  ·exact .bad (by rw[nA,if_neg h1,if_pos (by omega)]) (by decide)
  ·exact .bad (by rw[nA,if_neg h1,if_pos (by omega)]) (by decide)
  ·exact .bad (by rw[nA,if_neg h1,if_neg (by omega),if_pos (.inl h4)]) (by decide)
  ·refine .bad ?_ (by decide)
   rw[nA,if_neg h1,if_neg (by omega),if_pos]
   split at h5<;>omega
  ·have:e.f1≤3∧e.f1≤e.f2.length:=by split at h5<;>omega
   exact⟨⟨Decidable.not_not.1 h1,⟨by omega,by omega⟩,by omega,this.1,this.2⟩,0,by omega,fun j hj=>absurd hj (Nat.not_lt_zero j),rfl⟩
 ·intro k hk ss hI
  obtain rfl:k=0:=by omega
  obtain⟨ht,i,hi,hj,rfl⟩:=hI
  have hlen:=ht.2.1
  rw[agj]
  refine⟨rfl,aq (fun h1=>⟨⟨by omega,by omega⟩,eB e i,rfl,cE _ (bn (by omega)),fun h2=>?_,fun h2=>?_⟩) fun h1=>?_⟩
  ·rw[i64_in ((i:Int)+1) (by omega)]
   refine⟨⟨ht,i+1,by omega,fun j gS=>?_,rfl⟩,?_⟩
   ·by_cases e:j=i
    ·rw[e];exact h2
    ·exact hj j (by omega)
   ·show e.f2.length-((i:Int)+1).toNat<e.f2.length-(i:Int).toNat
    omega
  ·have hf:=jt (fun i=>bO (eB e i)) e.f2.length i (by omega) h2 hj
   refine .bad ?_ h2
   rw[ht.err,hf,if_pos h2]
  ·obtain rfl:i=e.f2.length:=by omega
   have hf:=(cM (fun i=>bO (eB e i)) e.f2.length).2 hj
   refine⟨eB e,rfl,by omega,_,rfl,by omega,aa.mk (fun h2=>?_) fun h2=>⟨⟨by omega,by have:=ht.2.2;omega,by have:=ht.2.2;omega,by omega⟩,eB e,?_,?_,aa.mk (fun h3=>?_) fun h3=>?_⟩⟩
   ·refine .bad ?_ (by decide)
    have h2:gh (fun i=>(eB e i).f0) e.f2.length=false:=by simpa using h2
    rw[ht.err,if_neg (fun h=>h hf),if_pos h2]
   ·funext i
    show aj.enc (e.f2.getD (Nat.add 0 i) default)=_
    rw[show Nat.add 0 i=i from Nat.zero_add i];rfl
   ·have:=ht.2.2;omega
   ·have h2:gh (fun i=>(eB e i).f0) e.f2.length=true:=by simpa using h2
    have h3:eU (eB e) e.f1.toNat=true:=h3
    refine .bad ?_ (by decide)
    rw[ht.err,if_neg (fun h=>h hf),if_neg (by rw[h2];decide),if_pos h3]
   ·have h2:gh (fun i=>(eB e i).f0) e.f2.length=true:=by simpa using h2
    refine .A6 ?_
    have h3:eU (eB e) e.f1.toNat=false:=h3
    rw[ht.err,if_neg (fun h=>h hf),if_neg (by rw[h2];decide),if_neg (by rw[h3];decide)]
theorem VH:∀ {f:FuncId} {vs:List V} {σ:St} {k:ah},Yu f vs σ k→ag Tryz.prog f vs k σ:=fun h=>aH VG IF h
variable [aZ]
theorem VI (h:QS vs σ k):ag Tryz.prog 133 vs k σ:=by
 unfold QS at h
 split at h
 ·exact Qh.mono fun v τ ⟨h1,h2⟩=>by subst h1;subst h2;exact h
 ·exact Qi.mono fun v τ ⟨h1,h2⟩=>by subst h1;subst h2;exact h
 ·exact h.elim
theorem IG:∀ {f:FuncId} {vs:List V} {σ:St} {k:ah},LN f vs σ k→ag Tryz.prog f vs k σ:=fun h=>aH VI VH h
theorem YN (h:Yv vs σ k):ag Tryz.prog 81 vs k σ:=by
 unfold Yv at h
 obtain⟨e,rfl,cE,h⟩:=h
 refine ag.cj (av e.aJ aM) (.int _ _) (F81.flat (live:=Oo) (call:=LN) (n₀:=0) (σ:=Go.Ev.start) (fun h=>IG h) rfl (by kernel_rfl) ?_) h
 rw[e81]
 exact⟨e,rfl,cE,fun h1=>by rw[h1],fun _=>rfl⟩
theorem IH:∀ {f:FuncId} {vs:List V} {σ:St} {k:ah},A4 f vs σ k→ag Tryz.prog f vs k σ:=fun h=>aH YN IG h
def I57 (e:af):Nat→List SV→Prop
 | 0,ss=>tG e∧∃i:Nat,i≤e.f2.length∧(∀j,j<i→bO (eB e j)=0)∧ss=[.box [.str e.f0,.int .i64 e.f1,ae aj.enc 7 e.f2],.val (.int .i64 i)]
 | 1,ss=>tG e∧(∀j,j<e.f2.length→bO (eB e j)=0)∧gh (fun i=>(eB e i).f0) e.f2.length=true∧∃i:Nat,i≤e.f1∧(∀j,j<i→(eB e j).f2=false)∧ss=[.box [.str e.f0,.int .i64 e.f1,ae aj.enc 7 e.f2],.val (.int .i64 i)]
 | _,_=>False
theorem YO (h:Yw vs σ k):ag Tryz.prog 57 vs k σ:=by
 unfold Yw at h
 obtain⟨e,rfl,cE,h⟩:=h
 refine ag.cj (av e.aJ aM) (.int _ _) (F57.cf (live:=zE) (call:=A4) (n₀:=0) (σ:=Go.Ev.start) (fun h=>IH h) rfl 2 (by kernel_rfl) Nat.lt_wfRel.wf (fun k ss=>20*(1-k)+(10-cb ss)) (I57 e) ?_ ?_ ?_) h
 ·intro k ss hI
  match k,hI with
  | 0,hI=>obtain⟨_,i,_,_,rfl⟩:=hI;exact Fi e (aG bG)
  | 1,hI=>obtain⟨_,_,_,i,_,_,rfl⟩:=hI;exact Fi e (aG bG)
 ·rw[e57]
  refine⟨rfl,aq (fun h1=>?_) fun h1=>⟨rfl,aq (fun h2=>?_) fun h2=>⟨rfl,aq (fun h3=>?_) fun h3=>⟨rfl,aq (fun h4=>?_) fun h4=>⟨rfl,aq (fun h5=>?_) fun h5=>⟨rfl,aq (fun h6=>?_) fun h6=>?_⟩⟩⟩⟩⟩⟩
  ·rw[nA,if_pos h1]
  ·rw[nA,if_neg h1,if_pos (by omega)]
  ·rw[nA,if_neg h1,if_pos (by omega)]
  ·rw[nA,if_neg h1,if_neg (by omega),if_pos (.inl h4)]
  ·rw[nA,if_neg h1,if_neg (by omega),if_pos (.inr (.inl h5))]
  ·rw[nA,if_neg h1,if_neg (by omega),if_pos (.inr (.inr h6))]
  ·exact⟨⟨Decidable.not_not.1 h1,⟨by omega,by omega⟩,by omega,by omega,by omega⟩,0,by omega,fun j hj=>absurd hj (Nat.not_lt_zero j),rfl⟩
 ·intro k hk ss hI
  match k,hk,hI with
  | 0,hk,hI=>
   obtain⟨ht,i,hi,hj,rfl⟩:=hI
   have hlen:=ht.2.1
   rw[agk]
   refine⟨rfl,aq (fun h1=>⟨⟨by omega,by omega⟩,eB e i,rfl,cE _ (bn (by omega)),rfl,aq (fun h2=>?_) fun h2=>?_⟩) fun h1=>?_⟩
   ·have hf:=jt (fun i=>bO (eB e i)) e.f2.length i (by omega) h2 hj
    rw[ht.err,hf,if_pos h2]
   ·rw[i64_in ((i:Int)+1) (by omega)]
    refine⟨⟨ht,i+1,by omega,fun j gS=>?_,rfl⟩,?_⟩
    ·by_cases e:j=i
     ·rw[e];exact Decidable.not_not.1 h2
     ·exact hj j (by omega)
    ·show 20*(1-0)+(10-((i:Int)+1).toNat)<20*(1-0)+(10-(i:Int).toNat)
     omega
   ·obtain rfl:i=e.f2.length:=by omega
    have hf:=(cM (fun i=>bO (eB e i)) e.f2.length).2 hj
    refine⟨eB e,rfl,by omega,_,rfl,by omega,aa.mk (fun h2=>?_) fun h2=>?_⟩
    ·have h2:gh (fun i=>(eB e i).f0) e.f2.length=false:=by simpa using h2
     rw[ht.err,if_neg (fun h=>h hf),if_pos h2]
    ·have h2:gh (fun i=>(eB e i).f0) e.f2.length=true:=by simpa using h2
     refine⟨⟨ht,hj,h2,0,by have:=ht.2.2;omega,fun j hj=>absurd hj (Nat.not_lt_zero j),rfl⟩,?_⟩
     show 20*(1-1)+(10-(0:Int).toNat)<20*(1-0)+(10-((e.f2.length:Nat):Int).toNat)
     omega
  | 1,hk,hI=>
   obtain⟨ht,hj,hu,i,hi,hn,rfl⟩:=hI
   have hlen:=ht.2.1
   have hk1:=ht.2.2
   have hf:=(cM (fun i=>bO (eB e i)) e.f2.length).2 hj
   rw[agl]
   refine⟨rfl,aq (fun h1=>⟨⟨by omega,by omega⟩,aa.mk (fun h2=>?_) fun h2=>?_⟩) fun h1=>?_⟩
   ·have h3:eU (eB e) e.f1.toNat=true:=(ly _ _).2 ⟨i,by omega,h2⟩
    rw[ht.err,if_neg (fun h=>h hf),if_neg (by rw[hu];decide),if_pos h3]
   ·rw[i64_in ((i:Int)+1) (by omega)]
    refine⟨⟨ht,hj,hu,i+1,by omega,fun j gS=>?_,rfl⟩,?_⟩
    ·by_cases e:j=i
     ·rw[e];exact h2
     ·exact hn j (by omega)
    ·show 20*(1-1)+(10-((i:Int)+1).toNat)<20*(1-1)+(10-(i:Int).toNat)
     omega
   ·have h3:eU (eB e) e.f1.toNat=false:=by
     cases hb:eU (eB e) e.f1.toNat with
     | false=>rfl
     | true=>
      obtain⟨j,Uc,e2⟩:=(ly _ _).1 hb
      rw[hn j (by omega)] at e2;cases e2
    rw[ht.err,if_neg (fun h=>h hf),if_neg (by rw[hu];decide),if_neg (by rw[h3];decide)]
theorem II:∀ {f:FuncId} {vs:List V} {σ:St} {k:ah},A5 f vs σ k→ag Tryz.prog f vs k σ:=fun h=>aH YO IH h
end
end Go.Proofs.YtbajncpfmemdgaaGreatDoor
end
section
namespace Go.Proofs.YtbajncpfmemdgaaGreatDoor
open Go Go.Ev Go.IntWalk
theorem oo {e:af} (h:bR e=0):tG e∧∀i,i<e.f2.length→bO (eB e i)=0:=by
 have h':=h
 rw[nA] at h
 split at h
 ·omega
 rename_i h1
 split at h
 ·omega
 rename_i h2
 split at h
 ·omega
 rename_i h3
 have ht:tG e:=⟨Decidable.not_not.1 h1,⟨by omega,by omega⟩,by omega,by omega,by omega⟩
 refine⟨ht,?_⟩
 split at h
 ·omega
 rename_i h4
 exact(cM (fun i=>bO (eB e i)) e.f2.length).1 (Decidable.not_not.1 h4)
section
variable [Env] {vs:List V} {σ:St} {k:ah}
variable [aZ]
end
end Go.Proofs.YtbajncpfmemdgaaGreatDoor
end
section
namespace Go.Proofs.YtbajncpfmemdgaaGreatDoor
open Go Go.Ev
def cQ (x:Int) (m:Nat):Int:=IntKind.u8.wrap (x.fdiv (2^m))
def lz (x:Int):Nat→List UInt8
 | 0=>[]
 | j+1=>lz x j++[byteOf (cQ x (56-8*j))]
def w2:Nat→List Nat:=(fun i=>match i with | 0=>[0,3,4] | _=>[])
theorem agD [Env] (A:Nat→List SV→Prop) (Q:V→Prop) (x:Int):WE Tryz.prog 199 Tryz.f199 A5 0 w2 A (fun v _=>Q v) [.int .u64 x] Go.Ev.start=
  (A 0 [.val (.int .u64 x),.val (.ak),.val (.int .i64 (0:Int))]):=by kernel_rfl
theorem acM [Env] (A:Nat→List SV→Prop) (Q:V→Prop) (x i:Int):WL Tryz.prog 199 Tryz.f199 A5 0 w2 A (fun v _=>Q v) 0 [.val (.int .u64 x),.val (.ak),.val (.int .i64 i)]=
  (((.i64:IntKind)=.i64∧aa (decide (i<(8:Int))) ((0≤(IntKind.u64.wrap (IntKind.i64.wrap ((56:Int)-(IntKind.i64.wrap ((8:Int)*i)))))∧(((1:Nat)=1∧(1:Nat)=1∧1*1=1*1)∧A 0 [.val (.int .u64 x),.row 1 (fun _=>.agg [.int .u8 (IntKind.u8.wrap (x.fdiv (2^min (IntKind.u64.wrap (IntKind.i64.wrap ((56:Int)-(IntKind.i64.wrap ((8:Int)*i))))).toNat IntKind.u64.bits)))]) 1,.val (.int .i64 (IntKind.i64.wrap (i+(1:Int))))]))) (Q (.str ([]))))):=by kernel_rfl
theorem acN [Env] (A:Nat→List SV→Prop) (Q:V→Prop) (x:Int) (n:Nat) (f:Nat→V) (i:Int):WL Tryz.prog 199 Tryz.f199 A5 0 w2 A (fun v _=>Q v) 0 [.val (.int .u64 x),.row n f 1,.val (.int .i64 i)]=
  (((.i64:IntKind)=.i64∧aa (decide (i<(8:Int))) ((0≤(IntKind.u64.wrap (IntKind.i64.wrap ((56:Int)-(IntKind.i64.wrap ((8:Int)*i)))))∧((n=n∧(n+1)*1≤1099511627776)∧(((n+1)=(n+1)∧1=1)∧A 0 [.val (.int .u64 x),.row (n+1) (dL n f (sJ [.int .u8 (IntKind.u8.wrap (x.fdiv (2^min (IntKind.u64.wrap (IntKind.i64.wrap ((56:Int)-(IntKind.i64.wrap ((8:Int)*i))))).toNat IntKind.u64.bits)))])) 1,.val (.int .i64 (IntKind.i64.wrap (i+(1:Int))))])))) ((n=n∧∃s1,eI (ax (cn n f))=some s1∧Q (.str s1))))):=by kernel_rfl
def QZ [Env] (vs:List V) (σ:St) (k:ah):Prop:=
 match vs with
 | [.int .u64 x]=>k (.str (lz x 8)) σ
 | _=>False
def LQ [Env]:=kS 199 QZ A5
end Go.Proofs.YtbajncpfmemdgaaGreatDoor
end
section
namespace Go.Proofs.YtbajncpfmemdgaaGreatDoor
open Go Go.Ev
end Go.Proofs.YtbajncpfmemdgaaGreatDoor
end
section
namespace Go.Proofs.YtbajncpfmemdgaaGreatDoor
open Go Go.Ev
end Go.Proofs.YtbajncpfmemdgaaGreatDoor
end
section
namespace Go.Proofs.YtbajncpfmemdgaaGreatDoor
open Go Go.Ev Go.IntWalk
theorem F199:bl Tryz.prog 199 Tryz.f199:=.of (by kernel_rfl) (by kernel_rfl)
theorem LR {i:Nat} (hi:i<8):IntKind.u64.wrap (IntKind.i64.wrap ((56:Int)-(IntKind.i64.wrap ((8:Int)*(i:Int)))))=((56-8*i:Nat):Int):=by
 rw[i64_in (8*(i:Int)) (by omega),i64_in (56-8*(i:Int)) (by omega),wrap_u64,Int.emod_eq_of_lt (by omega) (by omega)]
 omega
theorem IJ (x:Int) {i:Nat} (hi:i<8):IntKind.u8.wrap (x.fdiv (2^min (IntKind.u64.wrap (IntKind.i64.wrap ((56:Int)-(IntKind.i64.wrap ((8:Int)*(i:Int)))))).toNat IntKind.u64.bits))=cQ x (56-8*i):=by
 rw[LR hi,Int.toNat_natCast,Nat.min_eq_left (show 56-8*i≤IntKind.u64.bits by show 56-8*i≤64;omega)]
 rfl
theorem zG (x:Int) (m:Nat):0≤cQ x m∧cQ x m<256:=QY _
theorem Fj {n:Nat} {f:Nat→V} {L:List UInt8} (h:qR n f L) [Env] {l:List SV} (hl:∀u∈l,u.clean):∀u∈SV.row n f 1::l,u.clean:=aN (fun i hi u hu=>by
 rw[h.2 i hi,List.mem_singleton] at hu
 subst hu;exact Go.Ev.Clean.int _ _) hl
section
variable [Env] [aZ] {vs:List V} {σ:St} {k:ah}
def agE (x:Int):Nat→List SV→Prop
 | 0,ss=>ss=[.val (.int .u64 x),.val .ak,.val (.int .i64 (0:Int))]∨∃(i:Nat) (f:Nat→V),0<i∧i≤8∧qR i f (lz x i)∧ss=[.val (.int .u64 x),.row i f 1,.val (.int .i64 i)]
 | _,_=>False
theorem VJ (h:QZ vs σ k):ag Tryz.prog 199 vs k σ:=by
 unfold QZ at h
 split at h
 ·rename_i x
  refine ag.cj (av (Go.Ev.Clean.int _ _) aM) (.str _) (F199.cf (live:=w2) (call:=A5) (n₀:=0) (σ:=Go.Ev.start) (fun h=>II h) rfl 1 (by kernel_rfl) Nat.lt_wfRel.wf (fun _ ss=>8-cb ss) (agE x) ?_ ?_ ?_) h
  ·intro k ss hI
   cases k with
   | zero=>
    rcases hI with rfl | ⟨i,f,_,_,hf,rfl⟩
    ·exact aG (aN Go.Ev.Clean.ak (aG bG))
    ·exact aG (Fj hf (aG bG))
   | succ k=>exact hI.elim
  ·rw[agD]
   exact .inl rfl
  ·intro k hk ss hI
   obtain rfl:k=0:=by omega
   rcases hI with rfl | ⟨i,f,h0,hi,hf,rfl⟩
   ·have e1:=IJ x (i:=0) (by omega)
    have e2:=LR (i:=0) (by omega)
    rw[show((0:Nat):Int)=0 from rfl] at e1 e2
    rw[acM,e1,e2]
    refine⟨rfl,aq (fun h1=>⟨by omega,⟨rfl,rfl,rfl⟩,?_⟩) fun h1=>absurd (by decide) h1⟩
    rw[i64_in ((0:Int)+1) (by omega)]
    have hr:=zG x (56-8*0)
    refine⟨.inr ⟨1,_,by omega,by omega,.one hr.1 hr.2 rfl,rfl⟩,?_⟩
    show 8-((0:Int)+1).toNat<8-(0:Int).toNat
    decide
   ·rw[acN]
    refine⟨rfl,aq (fun h1=>?_) fun h1=>?_⟩
    ·have hi8:i<8:=by omega
     rw[IJ x hi8,LR hi8,i64_in ((i:Int)+1) (by omega)]
     have hr:=zG x (56-8*i)
     refine⟨by omega,⟨rfl,by omega⟩,⟨rfl,rfl⟩,.inr ⟨i+1,_,by omega,by omega,hf.append (.agu hr.1 hr.2 rfl),rfl⟩,?_⟩
     show 8-((i:Int)+1).toNat<8-(i:Int).toNat
     omega
    ·obtain rfl:i=8:=by omega
     exact⟨rfl,_,hf.bytes,rfl⟩
 ·exact h.elim
theorem IK:∀ {f:FuncId} {vs:List V} {σ:St} {k:ah},LQ f vs σ k→ag Tryz.prog f vs k σ:=fun h=>aH VJ II h
omit [Env] [aZ] in
theorem LS {v:az} (h:bp v=0):v.f3.length≤64:=by
 unfold bp at h
 repeat' split at h
 all_goals omega
end
end Go.Proofs.YtbajncpfmemdgaaGreatDoor
end
section
namespace Go.Proofs.YtbajncpfmemdgaaGreatDoor
open Go Go.Ev Go.IntWalk
section
variable [Env] [aZ] {vs:List V} {σ:St} {k:ah}
omit [aZ] in
theorem bW.mono {f:FuncId} {Q Q':ah} (h:bW Tryz.prog f vs Q σ) (hq:∀v τ,Q v τ→Q' v τ):bW Tryz.prog f vs Q' σ:=
 ⟨let ⟨v,τ,hx⟩:=h.ex;⟨v,τ,hq v τ hx⟩,fun ρ w vs' hr hv=>⟨(h.h ρ w vs' hr hv).1,(h.h ρ w vs' hr hv).2.mono fun e w' ⟨v,τ,ρ',v',h1,h2⟩=>⟨v,τ,ρ',v',hq v τ h1,h2⟩⟩⟩
end
end Go.Proofs.YtbajncpfmemdgaaGreatDoor
end
section
namespace Go.Proofs.YtbajncpfmemdgaaGreatDoor
open Go Go.Ev Go.IntWalk
section
variable [Env] {vs:List V} {σ:St} {k:ah}
variable [aZ]
end
end Go.Proofs.YtbajncpfmemdgaaGreatDoor
end
section
namespace Go.Proofs.YtbajncpfmemdgaaGreatDoor
open Go Go.Ev Go.IntWalk
section
variable [Env] {vs:List V} {σ:St} {k:ah}
variable [aZ]
end
end Go.Proofs.YtbajncpfmemdgaaGreatDoor
end
section
namespace Go.Proofs.YtbajncpfmemdgaaGreatDoor
open Go Go.Ev
structure an where
 f0:Int
 f1:(List UInt8)
 f2:(List UInt8)
 f3:(List UInt8)
 f4:(List UInt8)
 f5:(List UInt8)
 f6:Int
 f7:(List (List UInt8))
 f8:aj
 f9:af
 deriving Inhabited
def an.cells (e:an):List V:=[.int .i64 e.f0,.str e.f1,.str e.f2,.str e.f3,.str e.f4,.str e.f5,.int .i64 e.f6,ae V.str 1 e.f7,.str e.f8.f0,.int .i64 e.f8.f1,.bool e.f8.f2,.int .i64 e.f8.f3.f0,.int .i64 e.f8.f3.f1,.int .u64 e.f8.f3.f2,.str e.f8.f3.f3,.str e.f9.f0,.int .i64 e.f9.f1,ae aj.enc 7 e.f9.f2]
def an.enc (e:an):V:=.agg e.cells
theorem an.clean [Env] (e:an):∀u∈e.cells,Go.Ev.Clean u:=aC (Go.Ev.Clean.int _ _) (aC (Go.Ev.Clean.str _) (aC (Go.Ev.Clean.str _) (aC (Go.Ev.Clean.str _) (aC (Go.Ev.Clean.str _) (aC (Go.Ev.Clean.str _) (aC (Go.Ev.Clean.int _ _) (aC (dE (enc:=V.str) fun _ _=>aC (Go.Ev.Clean.str _) cJ) (aC (Go.Ev.Clean.str _) (aC (Go.Ev.Clean.int _ _) (aC (Go.Ev.Clean.bool _) (aC (Go.Ev.Clean.int _ _) (aC (Go.Ev.Clean.int _ _) (aC (Go.Ev.Clean.int _ _) (aC (Go.Ev.Clean.str _) (aC (Go.Ev.Clean.str _) (aC (Go.Ev.Clean.int _ _) (aC (dE (enc:=aj.enc) fun x _=>aj.clean x) cJ)))))))))))))))))
theorem an.size (e:an):e.cells.length=18:=rfl
structure oO where
 f0:Int
 f1:(List UInt8)
 f2:(List az)
 f3:(List az)
 f4:(List az)
 f5:Int
 f6:an
 deriving Inhabited
def oO.cells (e:oO):List V:=[.int .i64 e.f0,.str e.f1,ae az.enc 4 e.f2,ae az.enc 4 e.f3,ae az.enc 4 e.f4,.int .i64 e.f5,.int .i64 e.f6.f0,.str e.f6.f1,.str e.f6.f2,.str e.f6.f3,.str e.f6.f4,.str e.f6.f5,.int .i64 e.f6.f6,ae V.str 1 e.f6.f7,.str e.f6.f8.f0,.int .i64 e.f6.f8.f1,.bool e.f6.f8.f2,.int .i64 e.f6.f8.f3.f0,.int .i64 e.f6.f8.f3.f1,.int .u64 e.f6.f8.f3.f2,.str e.f6.f8.f3.f3,.str e.f6.f9.f0,.int .i64 e.f6.f9.f1,ae aj.enc 7 e.f6.f9.f2]
def oO.enc (e:oO):V:=.agg e.cells
theorem oO.clean [Env] (e:oO):∀u∈e.cells,Go.Ev.Clean u:=aC (Go.Ev.Clean.int _ _) (aC (Go.Ev.Clean.str _) (aC (dE (enc:=az.enc) fun x _=>az.clean x) (aC (dE (enc:=az.enc) fun x _=>az.clean x) (aC (dE (enc:=az.enc) fun x _=>az.clean x) (aC (Go.Ev.Clean.int _ _) (aC (Go.Ev.Clean.int _ _) (aC (Go.Ev.Clean.str _) (aC (Go.Ev.Clean.str _) (aC (Go.Ev.Clean.str _) (aC (Go.Ev.Clean.str _) (aC (Go.Ev.Clean.str _) (aC (Go.Ev.Clean.int _ _) (aC (dE (enc:=V.str) fun _ _=>aC (Go.Ev.Clean.str _) cJ) (aC (Go.Ev.Clean.str _) (aC (Go.Ev.Clean.int _ _) (aC (Go.Ev.Clean.bool _) (aC (Go.Ev.Clean.int _ _) (aC (Go.Ev.Clean.int _ _) (aC (Go.Ev.Clean.int _ _) (aC (Go.Ev.Clean.str _) (aC (Go.Ev.Clean.str _) (aC (Go.Ev.Clean.int _ _) (aC (dE (enc:=aj.enc) fun x _=>aj.clean x) cJ)))))))))))))))))))))))
theorem oO.size (e:oO):e.cells.length=24:=rfl
def IL (p:Prop) (σ:St) (k:ah):Prop:=p∧k (.int .i64 0) σ∧k (.int .i64 1) σ
def loQ (o:oO) (i:Nat):az:=o.f3.getD i default
def hiQ (o:oO) (i:Nat):az:=o.f4.getD i default
def Ud (o:oO):Prop:=(∀v∈o.f3,AR v)∧∀v∈o.f4,AR v
def OI:Nat→List Nat:=(fun _=>[])
theorem e69 [Env] (A:Nat→List SV→Prop) (Q:V→Prop) (e:az):WE Tryz.prog 69 Tryz.f69 LQ 0 OI A (fun v _=>Q v) [az.enc e] Go.Ev.start=
  (((.i64:IntKind)=.i64∧aa (decide ((((len e.f3:Nat):Int))>(2000:Int))) (Q (.int .i64 (0:Int))) (Q (.int .i64 (1:Int))))):=by kernel_rfl
def W69 [Env] (vs:List V) (σ:St) (k:ah):Prop:=
 IL (∃e:az,vs=[az.enc e]) σ k
def v8 [Env]:=kS 69 W69 LQ
def sr:Nat→List Nat:=(fun i=>match i with | 0=>[0,3] | _=>[])
theorem Ue [Env] (A:Nat→List SV→Prop) (Q:V→Prop) (l:List (List UInt8)):WE Tryz.prog 68 Tryz.f68 v8 0 sr A (fun v _=>Q v) [ae V.str 1 l] Go.Ev.start=
  (((.i64:IntKind)=.i64∧aa (decide ((((l.length:Nat):Int))>(60:Int))) (Q (.int .i64 (0:Int))) (A 0 [.val (ae V.str 1 l),.val (.int .i64 (0:Int))]))):=by kernel_rfl
theorem r68 [Env] (A:Nat→List SV→Prop) (Q:V→Prop) (l:List (List UInt8)) (i:Int):WL Tryz.prog 68 Tryz.f68 v8 0 sr A (fun v _=>Q v) 0 [.val (ae V.str 1 l),.val (.int .i64 i)]=
  (((.i64:IntKind)=.i64∧aa (decide (i<(((l.length:Nat):Int)))) (((0≤i∧i<((l.length:Nat):Int))∧((.i64:IntKind)=.i64∧aa (decide ((((len ((l.getD i.toNat default)):Nat):Int))>(500:Int))) (Q (.int .i64 (0:Int))) (A 0 [.val (ae V.str 1 l),.val (.int .i64 (IntKind.i64.wrap (i+(1:Int))))])))) (Q (.int .i64 (1:Int))))):=by kernel_rfl
def W68 [Env] (vs:List V) (σ:St) (k:ah):Prop:=
 IL (∃l:List (List UInt8),bH σ vs [ae V.str 1 l]) σ k
def Bb [Env]:=kS 68 W68 v8
def zH:Nat→List Nat:=(fun i=>match i with | 0=>[1,3] | _=>[])
theorem e52 [Env] (A:Nat→List SV→Prop) (Q:V→Prop) (e:af):WE Tryz.prog 52 Tryz.f52 Bb 0 zH A (fun v _=>Q v) [af.enc e] Go.Ev.start=
  (((.i64:IntKind)=.i64∧aa (decide ((((e.f2.length:Nat):Int))>(20:Int))) (Q (.int .i64 (0:Int))) (((.i64:IntKind)=.i64∧aa (decide ((((len e.f0:Nat):Int))>(500:Int))) (Q (.int .i64 (0:Int))) (A 0 [.box [.str e.f0,.int .i64 e.f1,ae aj.enc 7 e.f2],.val (.int .i64 (0:Int))]))))):=by kernel_rfl
theorem r52 [Env] (A:Nat→List SV→Prop) (Q:V→Prop) (e:af) (i:Int):WL Tryz.prog 52 Tryz.f52 Bb 0 zH A (fun v _=>Q v) 0 [.box [.str e.f0,.int .i64 e.f1,ae aj.enc 7 e.f2],.val (.int .i64 i)]=
  (((.i64:IntKind)=.i64∧aa (decide (i<(((e.f2.length:Nat):Int)))) (((0≤i∧i<((e.f2.length:Nat):Int))∧((.i64:IntKind)=.i64∧aa (decide ((((len ((e.f2.getD i.toNat default).f0):Nat):Int))>(500:Int))) (Q (.int .i64 (0:Int))) (((0≤i∧i<((e.f2.length:Nat):Int))∧((∃q19:az,[.agg [.int .i64 ((e.f2.getD i.toNat default).f3.f0),.int .i64 ((e.f2.getD i.toNat default).f3.f1),.int .u64 ((e.f2.getD i.toNat default).f3.f2),.str ((e.f2.getD i.toNat default).f3.f3)]]=[az.enc q19])∧((.i64:IntKind)=.i64∧Q (.int .i64 (0:Int)))∧((.i64:IntKind)=.i64∧A 0 [.box [.str e.f0,.int .i64 e.f1,ae aj.enc 7 e.f2],.val (.int .i64 (IntKind.i64.wrap (i+(1:Int))))]))))))) (Q (.int .i64 (1:Int))))):=by kernel_rfl
def W52 [Env] (vs:List V) (σ:St) (k:ah):Prop:=
 IL (∃e:af,vs=[af.enc e]) σ k
def LU [Env]:=kS 52 W52 Bb
def zI:Nat→List Nat:=(fun _=>[])
theorem e28 [Env] (A:Nat→List SV→Prop) (Q:V→Prop) (e:an):WE Tryz.prog 28 Tryz.f28 LU 0 zI A (fun v _=>Q v) [an.enc e] Go.Ev.start=
  (((∃q20:List (List UInt8),bH ⟨(St.new (St.new Go.Ev.start 0 (.cells 18 [] (ai [.int .i64 e.f0,.str e.f1,.str e.f2,.str e.f3,.str e.f4,.str e.f5,.int .i64 e.f6,ae V.str 1 e.f7,.str e.f8.f0,.int .i64 e.f8.f1,.bool e.f8.f2,.int .i64 e.f8.f3.f0,.int .i64 e.f8.f3.f1,.int .u64 e.f8.f3.f2,.str e.f8.f3.f3,.str e.f9.f0,.int .i64 e.f9.f1,ae aj.enc 7 e.f9.f2] .leaf 0) true false)) 1 (.cells 6 [] (ai [.str e.f1,.str e.f2,.str e.f3,.str e.f4,.str e.f5,.str e.f8.f0] .leaf 0) true false)).heap,2⟩ [ae V.str 1 e.f7] [ae V.str 1 q20])∧((.i64:IntKind)=.i64∧Q (.int .i64 (0:Int)))∧((.i64:IntKind)=.i64∧((∃q21:List (List UInt8),bH ⟨(St.new (St.new Go.Ev.start 0 (.cells 18 [] (ai [.int .i64 e.f0,.str e.f1,.str e.f2,.str e.f3,.str e.f4,.str e.f5,.int .i64 e.f6,ae V.str 1 e.f7,.str e.f8.f0,.int .i64 e.f8.f1,.bool e.f8.f2,.int .i64 e.f8.f3.f0,.int .i64 e.f8.f3.f1,.int .u64 e.f8.f3.f2,.str e.f8.f3.f3,.str e.f9.f0,.int .i64 e.f9.f1,ae aj.enc 7 e.f9.f2] .leaf 0) true false)) 1 (.cells 6 [] (ai [.str e.f1,.str e.f2,.str e.f3,.str e.f4,.str e.f5,.str e.f8.f0] .leaf 0) true false)).heap,2⟩ [.slice 1 0 (6) (6) true 1] [ae V.str 1 q21])∧((.i64:IntKind)=.i64∧Q (.int .i64 (0:Int)))∧((.i64:IntKind)=.i64∧((∃q22:af,[.agg [.str e.f9.f0,.int .i64 e.f9.f1,ae aj.enc 7 e.f9.f2]]=[af.enc q22])∧((.i64:IntKind)=.i64∧Q (.int .i64 (0:Int)))∧((.i64:IntKind)=.i64∧((∃q23:az,[.agg [.int .i64 e.f8.f3.f0,.int .i64 e.f8.f3.f1,.int .u64 e.f8.f3.f2,.str e.f8.f3.f3]]=[az.enc q23])∧((.i64:IntKind)=.i64∧Q (.int .i64 (0:Int)))∧((.i64:IntKind)=.i64∧Q (.int .i64 (1:Int))))))))))):=by kernel_rfl
def W28 [Env] (vs:List V) (σ:St) (k:ah):Prop:=
 IL (∃e:an,vs=[an.enc e]) σ k
def LV [Env]:=kS 28 W28 LU
end Go.Proofs.YtbajncpfmemdgaaGreatDoor
end
section
namespace Go.Proofs.YtbajncpfmemdgaaGreatDoor
open Go Go.Ev
end Go.Proofs.YtbajncpfmemdgaaGreatDoor
end
section
namespace Go.Proofs.YtbajncpfmemdgaaGreatDoor
open Go Go.Ev Go.IntWalk
theorem F69:bl Tryz.prog 69 Tryz.f69:=.of (by kernel_rfl) (by kernel_rfl)
theorem F68:bl Tryz.prog 68 Tryz.f68:=.of (by kernel_rfl) (by kernel_rfl)
theorem F52:bl Tryz.prog 52 Tryz.f52:=.of (by kernel_rfl) (by kernel_rfl)
theorem F28:bl Tryz.prog 28 Tryz.f28:=.of (by kernel_rfl) (by kernel_rfl)
theorem an.aJ [Env] (e:an):Go.Ev.Clean (an.enc e):=Go.Ev.Clean.agg e.clean
theorem oO.aJ [Env] (e:oO):Go.Ev.Clean (oO.enc e):=Go.Ev.Clean.agg e.clean
section
variable [Env] {vs:List V} {σ:St} {k:ah}
theorem yi {v:V} (h:Go.Ev.Clean v):bH σ [v] [v]:=.cons (.clean h) .nil
variable [aZ]
def Z (v:V):Prop:=v=.int .i64 0∨v=.int .i64 1
omit [Env] in
theorem Z.gK (v:V) (h:Z v):V.gK v=true:=by rcases h with rfl | rfl<;>rfl
omit [aZ] in
theorem v9 {f:FuncId} {us:List V} {p:Prop} (hf:bH σ vs us) (h:ag Tryz.prog f us (fun v _=>Z v) Go.Ev.start) (ht:IL p σ k):ag Tryz.prog f vs k σ:=
 ag.Of hf Z.gK h fun v hv=>by
  rcases hv with rfl | rfl
  ·exact ht.2.1
  ·exact ht.2.2
omit [Env] in
theorem z0:Z (.int .i64 0):=.inl rfl
omit [Env] in
theorem z1:Z (.int .i64 1):=.inr rfl
theorem YP (h:W69 vs σ k):ag Tryz.prog 69 vs k σ:=by
 obtain⟨e,rfl⟩:=h.1
 refine v9 (yi e.aJ) (F69.flat (live:=OI) (call:=LQ) (n₀:=0) (fun h=>IK h) rfl (by kernel_rfl) ?_) h
 rw[e69]
 exact⟨rfl,aa.mk (fun _=>z0) fun _=>z1⟩
theorem su:∀ {f:FuncId} {vs:List V} {σ:St} {k:ah},v8 f vs σ k→ag Tryz.prog f vs k σ:=fun h=>aH YP IK h
def Uf {α:Type} [Inhabited α] (enc:α→V) (esz:Nat) (l:List α):Nat→List SV→Prop
 | 0,ss=>∃i:Int,0≤i∧i≤l.length∧ss=[.val (ae enc esz l),.val (.int .i64 i)]
 | _,_=>False
omit [aZ] in
theorem wa {α:Type} [Inhabited α] {enc:α→V} {esz:Nat} {l:List α} (hc:Go.Ev.Clean (ae enc esz l)):∀k ss,Uf enc esz l k ss→∀s∈ss,s.clean:=by
 intro k ss hI s hs
 cases k with
 | zero=>
  obtain⟨i,_,_,rfl⟩:=hI
  simp only[List.mem_cons,List.not_mem_nil,or_false] at hs
  rcases hs with rfl | rfl
  ·exact hc
  ·exact Go.Ev.Clean.int _ _
 | succ k=>exact hI.elim
omit [Env] in
theorem mj (v:V) (i:Int):cb [.val v,.val (.int .i64 i)]=i.toNat:=by cases v<;>rfl
omit [Env] in
theorem qb {α:Type} [Inhabited α] (enc:α→V) (l:List α):cn l.length (fun i=>enc (l.getD i default))=l.map enc:=by
 apply List.ext_getElem?
 intro i
 by_cases h:i<l.length
 ·rw[dB h,List.getElem?_map,List.getElem?_eq_getElem h,List.getD_eq_getElem?_getD,List.getElem?_eq_getElem h];rfl
 ·rw[List.getElem?_eq_none (by rw[bg];omega),List.getElem?_eq_none (by rw[List.length_map];omega)]
omit [aZ] in
theorem Cw {b n cap:Nat} {ex:Bool} (ls:List (List UInt8)) (hn:ls.length=n) (h:σ.cells b 0 (n*1)=some (ls.map V.str)):bH σ [V.slice b 0 n cap ex 1] [ae V.str 1 ls]:=by
 have e1:∀l:List (List UInt8),ax (l.map V.str)=l.map V.str:=by
  intro l
  induction l with
  | nil=>rfl
  | cons x l ih=>rw[List.map_cons,ca,ih];rfl
 have e2:∀l:List (List UInt8),bH σ (l.map V.str) (l.map V.str):=fun l=>bH.clean fun v hv=>by
  obtain⟨x,_,rfl⟩:=List.mem_map.1 hv
  exact Go.Ev.Clean.str x
 refine .cons (.kR (.slice h ?_ ?_ ?_)) .nil
 ·rw[qb,e1];exact e2 ls
 ·rw[qb]
  intro v hv
  obtain⟨x,_,rfl⟩:=List.mem_map.1 hv
  rfl
 ·rw[bg,hn]
theorem YQ (h:W68 vs σ k):ag Tryz.prog 68 vs k σ:=by
 obtain⟨l,hf⟩:=h.1
 have hc:Go.Ev.Clean (ae V.str 1 l):=dE fun _ _=>aC (Go.Ev.Clean.str _) cJ
 refine v9 hf ?_ h
 by_cases hl:l.length≤60
 ·refine F68.cf (live:=sr) (call:=v8) (n₀:=0) (fun h=>su h) rfl 1 (by kernel_rfl) Nat.lt_wfRel.wf (fun _ ss=>60-cb ss) (Uf V.str 1 l) (wa hc) ?_ ?_
  ·rw[Ue]
   exact⟨rfl,aa.mk (fun e=>absurd (of_decide_eq_true e) (by omega)) fun _=>⟨0,by omega,by omega,rfl⟩⟩
  ·intro k hk ss hI
   obtain rfl:k=0:=by omega
   obtain⟨i,h0,h1,rfl⟩:=hI
   rw[r68]
   refine⟨rfl,aa.mk (fun e=>?_) fun _=>z1⟩
   have e:=of_decide_eq_true e
   refine⟨⟨h0,e⟩,rfl,aa.mk (fun _=>z0) fun _=>⟨⟨i+1,by omega,by omega,by rw[i64_in _ (by omega)]⟩,?_⟩⟩
   rw[i64_in _ (by omega),mj,mj]
   show 60-(i+1).toNat<60-i.toNat
   omega
 ·refine F68.cf (live:=sr) (call:=v8) (n₀:=0) (fun h=>su h) rfl 1 (by kernel_rfl) Nat.lt_wfRel.wf (fun _ _=>0) (fun _ _=>False) (fun _ _ h=>h.elim) ?_ fun _ _ _ h=>h.elim
  rw[Ue]
  exact⟨rfl,aa.mk (fun _=>z0) fun e=>absurd (of_decide_eq_false e) (by omega)⟩
theorem Bc:∀ {f:FuncId} {vs:List V} {σ:St} {k:ah},Bb f vs σ k→ag Tryz.prog f vs k σ:=fun h=>aH YQ su h
def I52 (e:af):Nat→List SV→Prop
 | 0,ss=>∃i:Int,0≤i∧i≤e.f2.length∧ss=[.box [.str e.f0,.int .i64 e.f1,ae aj.enc 7 e.f2],.val (.int .i64 i)]
 | _,_=>False
theorem YR (h:W52 vs σ k):ag Tryz.prog 52 vs k σ:=by
 obtain⟨e,rfl⟩:=h.1
 refine v9 (yi e.aJ) ?_ h
 by_cases hl:e.f2.length≤20
 ·refine F52.cf (live:=zH) (call:=Bb) (n₀:=0) (fun h=>Bc h) rfl 1 (by kernel_rfl) Nat.lt_wfRel.wf (fun _ ss=>20-cb ss) (I52 e) ?_ ?_ ?_
  ·intro k ss hI s hs
   cases k with
   | zero=>
    obtain⟨i,_,_,rfl⟩:=hI
    simp only[List.mem_cons,List.not_mem_nil,or_false] at hs
    rcases hs with rfl | rfl
    ·exact e.clean
    ·exact Go.Ev.Clean.int _ _
   | succ k=>exact hI.elim
  ·rw[e52]
   exact⟨rfl,aa.mk (fun e=>absurd (of_decide_eq_true e) (by omega)) fun _=>⟨rfl,aa.mk (fun _=>z0) fun _=>⟨0,by omega,by omega,rfl⟩⟩⟩
  ·intro k hk ss hI
   obtain rfl:k=0:=by omega
   obtain⟨i,h0,h1,rfl⟩:=hI
   rw[r52]
   refine⟨rfl,aa.mk (fun q=>?_) fun _=>z1⟩
   have q:=of_decide_eq_true q
   refine⟨⟨h0,q⟩,rfl,aa.mk (fun _=>z0) fun _=>⟨⟨h0,q⟩,⟨(e.f2.getD i.toNat default).f3,rfl⟩,⟨rfl,z0⟩,rfl,⟨i+1,by omega,by omega,by rw[i64_in _ (by omega)]⟩,?_⟩⟩
   rw[i64_in _ (by omega)]
   show 20-(i+1).toNat<20-i.toNat
   omega
 ·refine F52.cf (live:=zH) (call:=Bb) (n₀:=0) (fun h=>Bc h) rfl 1 (by kernel_rfl) Nat.lt_wfRel.wf (fun _ _=>0) (fun _ _=>False) (fun _ _ h=>h.elim) ?_ fun _ _ _ h=>h.elim
  rw[e52]
  exact⟨rfl,aa.mk (fun _=>z0) fun e=>absurd (of_decide_eq_false e) (by omega)⟩
theorem IM:∀ {f:FuncId} {vs:List V} {σ:St} {k:ah},LU f vs σ k→ag Tryz.prog f vs k σ:=fun h=>aH YR Bc h
theorem YS (h:W28 vs σ k):ag Tryz.prog 28 vs k σ:=by
 obtain⟨e,rfl⟩:=h.1
 refine v9 (yi e.aJ) (F28.flat (live:=zI) (call:=LU) (n₀:=0) (fun h=>IM h) rfl (by kernel_rfl) ?_) h
 rw[e28]
 refine⟨⟨e.f7,yi (dE fun _ _=>aC (Go.Ev.Clean.str _) cJ)⟩,⟨rfl,z0⟩,rfl,⟨[e.f1,e.f2,e.f3,e.f4,e.f5,e.f8.f0],Cw _ rfl (by kernel_rfl)⟩,⟨rfl,z0⟩,rfl,⟨e.f9,rfl⟩,⟨rfl,z0⟩,rfl,⟨e.f8.f3,rfl⟩,⟨rfl,z0⟩,rfl,z1⟩
theorem IN:∀ {f:FuncId} {vs:List V} {σ:St} {k:ah},LV f vs σ k→ag Tryz.prog f vs k σ:=fun h=>aH YS IM h
end
end Go.Proofs.YtbajncpfmemdgaaGreatDoor
end
section
namespace Go.Proofs.YtbajncpfmemdgaaGreatDoor.zJ
open Go.Ev
theorem rm:Tryz.prog.follows .mixedOrders=true:=by kernel_rfl
abbrev i (n:Int):V:=.int .i64 n
def bs (l:List Nat):V:=.str (l.map UInt8.ofNat)
noncomputable def cl (l:List V):Trie V:=ai l .leaf 0
noncomputable def cs (l:List (Nat×V)):Trie V:=Da l .leaf
theorem YT {P:Program} {a0 a1 a2:Ev.Told} (h0:a0.ok P) (h1:a1.ok P) (h2:a2.ok P):∀e∈[a0,a1,a2],e.ok P:=by
 intro e he
 simp only[List.mem_cons,List.not_mem_nil,or_false] at he
 rcases he with rfl | rfl | rfl
 ·exact h0
 ·exact h1
 ·exact h2
end Go.Proofs.YtbajncpfmemdgaaGreatDoor.zJ
end
section
set_option maxRecDepth 100000
namespace Go.Proofs.YtbajncpfmemdgaaGreatDoor.zJ
open Go.Ev
noncomputable def t1:Ev.Told where
 f:=47
 args:=[.ak,.agg [i 6,bs [],.ak,.ak,.ak,i 0,i 1,bs [],bs [],bs [],bs [],bs [],i 0,.ak,bs [],i 0,.bool false,i 0,i 0,.int .u64 0,bs [],bs [116],i 1,.slice 31 0 2 2 true 7]]
 pre:=[(31,.cells 14 [] (cl ([bs [107],i 2,.bool false,i 0,i 0,.int .u64 0,bs [],bs [118],i 5,.bool true,i 0,i 0,.int .u64 0,bs []])) true false)]
 now:=41
 v:=.tuple [.slice 196 0 1 1 false 4,.agg [i 0,.ak]]
 post:=[(31,some (.cells 14 [] (cl ([bs [107],i 2,.bool false,i 0,i 0,.int .u64 0,bs [],bs [118],i 5,.bool true,i 0,i 0,.int .u64 0,bs []])) true false)),(191,some (.cells 14 [] (cl ([bs [107],i 2,.bool false,i 0,i 0,.int .u64 0,bs [],bs [118],i 5,.bool true,i 0,i 0,.int .u64 0,bs []])) true false)),(196,some (.cells 4 [] (cl ([bs [116],i 1,.slice 191 0 2 2 false 7,.ak])) true false))]
 then':=197
theorem Ug:t1.ok Tryz.prog:=Ev.Told.nu (O:=[]) rm (fun _ h=>by cases h) 100000 (by kernel_rfl)
noncomputable def t2:Ev.Told where
 f:=47
 args:=[.slice 196 0 1 1 false 4,.agg [i 3,bs [116],.slice 32 0 2 2 true 4,.ak,.ak,i 0,i 0,bs [],bs [],bs [],bs [],bs [],i 0,.ak,bs [],i 0,.bool false,i 0,i 0,.int .u64 0,bs [],bs [],i 0,.ak]]
 pre:=[(32,.cells 8 [] (cl ([i 2,i 1,.int .u64 0,bs [],i 5,i 0,.int .u64 0,bs [53]])) true false),(191,.cells 14 [] (cl ([bs [107],i 2,.bool false,i 0,i 0,.int .u64 0,bs [],bs [118],i 5,.bool true,i 0,i 0,.int .u64 0,bs []])) true false),(196,.cells 4 [] (cl ([bs [116],i 1,.slice 191 0 2 2 false 7,.ak])) true false)]
 now:=201
 v:=.tuple [.slice 494 0 1 1 false 4,.agg [i 0,.ak]]
 post:=[(32,some (.cells 8 [] (cl ([i 2,i 1,.int .u64 0,bs [],i 5,i 0,.int .u64 0,bs [53]])) true false)),(191,some (.cells 14 [] (cl ([bs [107],i 2,.bool false,i 0,i 0,.int .u64 0,bs [],bs [118],i 5,.bool true,i 0,i 0,.int .u64 0,bs []])) true false)),(196,some (.cells 4 [] (cl ([bs [116],i 1,.slice 191 0 2 2 false 7,.ak])) true false)),(481,some (.cells 8 [] (cl ([i 2,i 1,.int .u64 0,bs [],i 5,i 0,.int .u64 0,bs [53]])) true false)),(487,some (.cells 2 [] (cl ([bs [2,128,0,0,0,0,0,0,1],.slice 481 0 2 2 false 4])) true false)),(494,some (.cells 4 [] (cl ([bs [116],i 1,.slice 191 0 2 2 false 7,.slice 487 0 1 1 false 2])) true false))]
 then':=499
theorem Uh:t2.ok Tryz.prog:=Ev.Told.nu (O:=[]) rm (fun _ h=>by cases h) 100000 (by kernel_rfl)
noncomputable def t3:Ev.Told where
 f:=47
 args:=[.slice 494 0 1 1 false 4,.agg [i 3,bs [116],.slice 35 0 2 2 true 4,.ak,.ak,i 0,i 0,bs [],bs [],bs [],bs [],bs [],i 0,.ak,bs [],i 0,.bool false,i 0,i 0,.int .u64 0,bs [],bs [],i 0,.ak]]
 pre:=[(35,.cells 8 [] (cl ([i 2,i 2,.int .u64 0,bs [],i 5,i 0,.int .u64 0,bs [55]])) true false),(191,.cells 14 [] (cl ([bs [107],i 2,.bool false,i 0,i 0,.int .u64 0,bs [],bs [118],i 5,.bool true,i 0,i 0,.int .u64 0,bs []])) true false),(487,.cells 2 [] (cl ([bs [2,128,0,0,0,0,0,0,1],.slice 481 0 2 2 false 4])) true false),(494,.cells 4 [] (cl ([bs [116],i 1,.slice 191 0 2 2 false 7,.slice 487 0 1 1 false 2])) true false)]
 now:=824
 v:=.tuple [.slice 1120 0 1 1 false 4,.agg [i 0,.ak]]
 post:=[(35,some (.cells 8 [] (cl ([i 2,i 2,.int .u64 0,bs [],i 5,i 0,.int .u64 0,bs [55]])) true false)),(191,some (.cells 14 [] (cl ([bs [107],i 2,.bool false,i 0,i 0,.int .u64 0,bs [],bs [118],i 5,.bool true,i 0,i 0,.int .u64 0,bs []])) true false)),(487,some (.cells 2 [] (cl ([bs [2,128,0,0,0,0,0,0,1],.slice 481 0 2 2 false 4])) true false)),(494,some (.cells 4 [] (cl ([bs [116],i 1,.slice 191 0 2 2 false 7,.slice 487 0 1 1 false 2])) true false)),(1107,some (.cells 8 [] (cl ([i 2,i 2,.int .u64 0,bs [],i 5,i 0,.int .u64 0,bs [55]])) true false)),(1113,some (.cells 4 [] (cl ([bs [2,128,0,0,0,0,0,0,1],.slice 481 0 2 2 false 4,bs [2,128,0,0,0,0,0,0,2],.slice 1107 0 2 2 false 4])) true false)),(1120,some (.cells 4 [] (cl ([bs [116],i 1,.slice 191 0 2 2 false 7,.slice 1113 0 2 2 false 2])) true false))]
 then':=1125
theorem Ui:t3.ok Tryz.prog:=Ev.Told.nu (O:=[]) rm (fun _ h=>by cases h) 100000 (by kernel_rfl)
end Go.Proofs.YtbajncpfmemdgaaGreatDoor.zJ
end
section
namespace Go.Proofs.YtbajncpfmemdgaaGreatDoor.zJ
open Go.Ev
end Go.Proofs.YtbajncpfmemdgaaGreatDoor.zJ
end
section
namespace Go.Proofs.YtbajncpfmemdgaaGreatDoor
open Go Go.Ev Go.IntWalk
section
variable [Env] {vs:List V} {σ:St} {k:ah}
theorem X8 {P:Program} [Go.Ev.eQ P] {f:FuncId} {vs:List V} {σ:St} {O:List Ev.Told} (hO:∀e∈O,e.ok P) (n:Nat) (h:(AJ P O n (.call f vs) σ).check ye=true):ag P f vs (fun v _=>v=.bool true) σ:=
 ⟨(cC.HM (n:=n) hO (bw.nm h)).mono fun⟨o,τ⟩ hx=>by
   cases o with
   | val v=>
    cases v with
    | bool b=>have hx:b=true:=hx;rw[hx];rfl
    | _=>cases hx
   | exit e a=>cases hx⟩
variable [aZ]
omit [Env] [aZ] in
theorem Ud.lo {o:oO} (h:Ud o):∀i,i<o.f3.length→AR (loQ o i):=fun i hi=>h.1 _ (bn hi)
omit [Env] [aZ] in
theorem Ud.hi {o:oO} (h:Ud o):∀i,i<o.f4.length→AR (hiQ o i):=fun i hi=>h.2 _ (bn hi)
end
end Go.Proofs.YtbajncpfmemdgaaGreatDoor
end
