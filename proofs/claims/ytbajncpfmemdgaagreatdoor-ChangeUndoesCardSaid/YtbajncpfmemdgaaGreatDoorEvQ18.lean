/- Proved: parts of the way: BC6, Give, BEq18. -/
import Derived.Test.YtbajncpfmemdgaaGreatDoorEvQ17
import Derived.Test.YtbajncpfmemdgaaGreatDoorEvQ14
set_option linter.unusedVariables false
set_option linter.unusedSimpArgs false
section
namespace Go.Proofs.YtbajncpfmemdgaaGreatDoor
open Go Go.Ev Go.IntWalk
theorem F83:bS Tryz.prog 83 Tryz.f83:=.of (by kernel_rfl) (by kernel_rfl)
theorem F82:bS Tryz.prog 82 Tryz.f82:=.of (by kernel_rfl) (by kernel_rfl)
theorem F40:bS Tryz.prog 40 Tryz.f40:=.of (by kernel_rfl) (by kernel_rfl)
theorem F38:bS Tryz.prog 38 Tryz.f38:=.of (by kernel_rfl) (by kernel_rfl)
theorem F212:bS Tryz.prog 212 Tryz.f212:=.of (by kernel_rfl) (by kernel_rfl)
theorem F164:bS Tryz.prog 164 Tryz.f164:=.of (by kernel_rfl) (by kernel_rfl)
theorem F129:bS Tryz.prog 129 Tryz.f129:=.of (by kernel_rfl) (by kernel_rfl)
theorem F76:bS Tryz.prog 76 Tryz.f76:=.of (by kernel_rfl) (by kernel_rfl)
theorem F32:bS Tryz.prog 32 Tryz.f32:=.of (by kernel_rfl) (by kernel_rfl)
theorem F27:bS Tryz.prog 27 Tryz.f27:=.of (by kernel_rfl) (by kernel_rfl)
theorem cI {α:Type} [Inhabited α] {l:List α} {i:Nat} (h:i<l.length):l.getD i default=l[i]:=by rw[List.getD_eq_getElem?_getD,List.getElem?_eq_getElem h];rfl
theorem Mn {α:Type} [Inhabited α] {l m:List α} (hl:l.length=m.length) (h:∀i,i<l.length→l.getD i default=m.getD i default):l=m:=
 List.ext_getElem hl fun i h1 h2=>by have:=h i h1;rwa [cI h1,cI h2] at this
theorem mY (q:Nat→List UInt8):∀n,vj q n=true↔∀i,i<n→0<i→(Op.bytesLess (q i) (q (i-1))||q i==q (i-1))=false
 | 0=>⟨fun _ i hi=>absurd hi (Nat.not_lt_zero i),fun _=>rfl⟩
 | n+1=>by
  show(vj q n&&(decide (n=0)|| !(Op.bytesLess (q n) (q (n-1))||q n==q (n-1))))=true↔_
  rw[Bool.and_eq_true,mY q n,Bool.or_eq_true,decide_eq_true_iff,Bool.not_eq_true']
  constructor
  ·rintro⟨h1,h2⟩ i hi h0
   by_cases e:i=n
   ·subst e;exact h2.resolve_left (by omega)
   ·exact h1 i (by omega) h0
  ·intro h
   refine⟨fun i hi h0=>h i (by omega) h0,?_⟩
   by_cases e:n=0
   ·exact .inl e
   ·exact .inr (h n (by omega) (by omega))
def nameAt (l:List aa) (i:Nat):List UInt8:=(l.getD i default).f0
theorem x9 {l:List aa} (h:l.length>16):cr l=2:=by unfold cr;rw[if_pos h]
theorem HR {l:List aa} (h:¬l.length>16) {i:Nat} (hi:i<l.length) (h1:bB (l.getD i default)≠0) (h2:∀j,j<i→bB (l.getD j default)=0):cr l=bB (l.getD i default):=by
 have:=jC (fun i=>bB (l.getD i default)) l.length i hi h1 h2
 unfold cr
 rw[if_neg h,this,if_pos h1]
theorem mL {l:List aa} (h:¬l.length>16) (h2:∀j,j<l.length→bB (l.getD j default)=0):cr l=if vj (nameAt l) l.length=true then 0 else 12:=by
 have:=(cm (fun i=>bB (l.getD i default)) l.length).2 h2
 unfold cr
 rw[if_neg h,if_neg (by rw[this];exact fun h=>h rfl)];rfl
theorem Kl {l:List aa} (h:¬l.length>16) (h2:∀j,j<l.length→bB (l.getD j default)=0) {i:Nat} (hi:i<l.length) (h0:0<i) (hb:(Op.bytesLess (nameAt l i) (nameAt l (i-1))||nameAt l i==nameAt l (i-1))=true):cr l=12:=by
 rw[mL h h2,if_neg]
 intro hr
 have:=(mY _ _).1 hr i hi h0
 rw[hb] at this;cases this
section
variable [Env] [aE] {vs:List V} {σ:St} {k:ah}
omit [aE] in
theorem bX (l:List aa):Go.Ev.Clean (af aa.enc 3 l):=dh (enc:=aa.enc) fun x _=>aa.clean x
omit [aE] in
theorem e6 (l:List aj):Go.Ev.Clean (af aj.enc 7 l):=dh (enc:=aj.enc) fun x _=>aj.clean x
omit [aE] in
theorem Mo {f:FuncId} {s:List UInt8}:Go.Ev.Clean (.func (.func f) [] [.aK [.str s] 0]):=Go.Ev.Clean.fn cw (aw (Go.Ev.Clean.aK (aw (Go.Ev.Clean.str _) cw)) cw)
theorem S6 (h:XC vs σ k):ag Tryz.prog 83 vs k σ:=by
 obtain⟨e,s,rfl,h⟩:=h
 refine ag.eJ (aA (aa.aG e) (aA (Go.Ev.Clean.aK (aw (Go.Ev.Clean.str _) cw)) bm)) (.bool _) (F83.flat (live:=Ki) (call:=HL) (n₀:=0) (σ:=Go.Ev.start) (fun h=>Fk h) rfl (by kernel_rfl) ?_) h
 rw[e83]
 exact av (fun h=>by rw[decide_eq_true h]) fun h=>by rw[decide_eq_false h]
theorem Fm:∀ {f:FuncId} {vs:List V} {σ:St} {k:ah},Cp f vs σ k→ag Tryz.prog f vs k σ:=fun h=>aR S6 Fk h
def I82 (l:List aa) (s:List UInt8):Nat→List SV→Prop
 | 0,ss=>∃i:Nat,i≤l.length∧(∀j,j<i→nameAt l j≠s)∧ss=[.val (af aa.enc 3 l),.val (.func (.func 83) [] [.aK [.str s] 0]),.val (.int .i64 ((l.length:Nat):Int)),.val (.int .i64 ((i:Nat):Int))]
 | _,_=>False
theorem S7 (h:XF vs σ k):ag Tryz.prog 82 vs k σ:=by
 obtain⟨l,s,hf,hn,h⟩:=h
 refine ag.eJ hf (.int _ _) (F82.cG (live:=Cq) (call:=Cp) (n₀:=0) (σ:=Go.Ev.start) (fun h=>Fm h) rfl 1 (by kernel_rfl) Nat.lt_wfRel.wf (fun _ ss=>l.length-cF ss) (I82 l s) ?_ ?_ ?_) h
 ·intro k ss hI
  cases k with
  | zero=>obtain⟨i,_,_,rfl⟩:=hI;exact ax (bX l) (ax Mo (aF (aF bW)))
  | succ k=>exact hI.elim
 ·rw[OE]
  exact⟨0,by omega,fun j hj=>absurd hj (Nat.not_lt_zero j),rfl⟩
 ·intro k hk ss hI
  obtain rfl:k=0:=by omega
  obtain⟨i,hi,hj,rfl⟩:=hI
  rw[r82]
  refine⟨rfl,av (fun h1=>⟨⟨by omega,by omega⟩,⟨_,_,rfl,av (fun h2=>?_) fun h2=>?_⟩⟩) fun h1=>?_⟩
  ·rw[eu] at h2
   show V.int .i64 (i:Int)=.int .i64 (cb s (nameAt l) l.length)
   rw[nS s _ l.length i (by omega) h2 hj]
  ·rw[eu] at h2
   rw[i64_in ((i:Int)+1) (by omega)]
   refine⟨⟨i+1,by omega,fun j jg=>?_,rfl⟩,?_⟩
   ·by_cases e:j=i
    ·subst e;exact h2
    ·exact hj j (by omega)
   ·show l.length-((i:Int)+1).toNat<l.length-(i:Int).toNat
    omega
  ·obtain rfl:i=l.length:=by omega
   show V.int .i64 (-1:Int)=.int .i64 (cb s (nameAt l) l.length)
   rw[jN s _ l.length hj]
theorem Fo:∀ {f:FuncId} {vs:List V} {σ:St} {k:ah},HO f vs σ k→ag Tryz.prog f vs k σ:=fun h=>aR S7 Fm h
theorem S9 (h:XH vs σ k):ag Tryz.prog 40 vs k σ:=by
 obtain⟨l,s,rfl,hn,h⟩:=h
 refine ag.eJ (aA (bX l) (aA (Go.Ev.Clean.str _) bm)) (.int _ _) (F40.flat (live:=Kj) (call:=HO) (n₀:=0) (σ:=Go.Ev.start) (fun h=>Fo h) rfl (by kernel_rfl) ?_) h
 rw[e40]
 exact⟨l,s,.cons (.clean (bX l)) (.cons (.func .nil (.cons (.BW (n:=1) (cs:=[.str s]) (by rfl) (.cons (.str _) .nil)) .nil)) .nil),hn,rfl⟩
theorem Fp:∀ {f:FuncId} {vs:List V} {σ:St} {k:ah},zg f vs σ k→ag Tryz.prog f vs k σ:=fun h=>aR S9 Fo h
def V0 (l:List aa) (i:Nat):Prop:=i≤l.length∧∀j,j<i→bB (l.getD j default)=0
def V1 (l:List aa) (i:Nat):Prop:=i≤l.length∧(∀j,j<l.length→bB (l.getD j default)=0)∧∀j,j<i→0<j→(Op.bytesLess (nameAt l j) (nameAt l (j-1))||nameAt l j==nameAt l (j-1))=false
def Yh (l:List aa):Nat→List SV→Prop
 | 0,ss=>∃i:Nat,(¬l.length>16∧V0 l i)∧ss=[.val (af aa.enc 3 l),.val (af aa.enc 3 l),.val (.int .i64 ((l.length:Nat):Int)),.val (.int .i64 ((i:Nat):Int))]
 | 1,ss=>∃i:Nat,(¬l.length>16∧V1 l i)∧ss=[.val (af aa.enc 3 l),.val (.int .i64 ((l.length:Nat):Int)),.val (.int .i64 ((i:Nat):Int))]
 | _,_=>False
def Ta (l:List aa) (j:Nat) (ss:List SV):Nat:=(1-j)*100+(l.length-cF ss)
theorem Tb (h:XI vs σ k):ag Tryz.prog 38 vs k σ:=by
 obtain⟨l,rfl,dq,h⟩:=h
 refine ag.eJ (aA (bX l) bm) (.int _ _) (F38.cG (live:=x8) (call:=zg) (n₀:=0) (σ:=Go.Ev.start) (fun h=>Fp h) rfl 2 (by kernel_rfl) Nat.lt_wfRel.wf (Ta l) (Yh l) ?_ ?_ ?_) h
 ·intro k ss hI
  match k,hI with
  | 0,hI=>obtain⟨i,_,rfl⟩:=hI;exact ax (bX l) (ax (bX l) (aF (aF bW)))
  | 1,hI=>obtain⟨i,_,rfl⟩:=hI;exact ax (bX l) (aF (aF bW))
  | n+2,hI=>exact hI.elim
 ·rw[e38]
  refine⟨rfl,av (fun h1=>by rw[x9 (by omega)]) fun h1=>⟨0,⟨by omega,Nat.zero_le _,fun j hj=>absurd hj (Nat.not_lt_zero j)⟩,rfl⟩⟩
 ·intro k hk ss hI
  match k,hI with
  | 0,hI=>
   obtain⟨i,⟨ya,hi,hj⟩,rfl⟩:=hI
   rw[Z2]
   refine⟨rfl,av (fun h1=>⟨⟨by omega,by omega⟩,⟨_,rfl,dq _ (bf (by omega)),rfl,av (fun h2=>?_) fun h2=>?_⟩⟩) fun h1=>?_⟩
   ·rw[eu] at h2⊢
    rw[HR ya (by omega) h2 hj]
   ·rw[eu] at h2
    rw[i64_in ((i:Int)+1) (by omega)]
    refine⟨⟨i+1,⟨ya,by omega,fun j jg=>?_⟩,rfl⟩,?_⟩
    ·by_cases e:j=i
     ·subst e;exact Classical.not_not.mp h2
     ·exact hj j (by omega)
    ·show 1*100+(l.length-((i:Int)+1).toNat)<1*100+(l.length-(i:Int).toNat)
     omega
   ·obtain rfl:i=l.length:=by omega
    refine⟨⟨0,⟨ya,Nat.zero_le _,hj,fun j hj=>absurd hj (Nat.not_lt_zero j)⟩,rfl⟩,?_⟩
    show 0*100+(l.length-(0:Int).toNat)<1*100+(l.length-(l.length:Int).toNat)
    have:(0:Int).toNat=0:=rfl
    omega
  | 1,hI=>
   obtain⟨i,⟨ya,hi,hz,hj⟩,rfl⟩:=hI
   rw[Z3]
   have go:(0<i→(Op.bytesLess (nameAt l i) (nameAt l (i-1))||nameAt l i==nameAt l (i-1))=false)→i<l.length→Yh l 1 [.val (af aa.enc 3 l),.val (.int .i64 ((l.length:Nat):Int)),.val (.int .i64 (IntKind.i64.wrap ((i:Int)+1)))]∧Ta l 1 [.val (af aa.enc 3 l),.val (.int .i64 ((l.length:Nat):Int)),.val (.int .i64 (IntKind.i64.wrap ((i:Int)+1)))]<Ta l 1 [.val (af aa.enc 3 l),.val (.int .i64 ((l.length:Nat):Int)),.val (.int .i64 ((i:Nat):Int))]:=fun h2 h3=>by
    rw[i64_in ((i:Int)+1) (by omega)]
    refine⟨⟨i+1,⟨ya,by omega,hz,fun j jg h0=>?_⟩,rfl⟩,?_⟩
    ·by_cases e:j=i
     ·subst e;exact h2 h0
     ·exact hj j (by omega) h0
    ·show 0*100+(l.length-((i:Int)+1).toNat)<0*100+(l.length-(i:Int).toNat)
     omega
   refine⟨rfl,av (fun h1=>⟨rfl,av (fun h2=>?_) fun h2=>go (fun h=>absurd h (by omega)) (by omega)⟩) fun h1=>?_⟩
   ·have e1:IntKind.i64.wrap ((i:Int)-1)=((i-1:Nat):Int):=by rw[i64_in ((i:Int)-1) (by omega)];omega
    rw[e1]
    refine⟨⟨by omega,by omega⟩,⟨by omega,by omega⟩,ae.mk (fun h3=>?_) fun h3=>go (fun _=>h3) (by omega)⟩
    rw[Kl ya hz (i:=i) (by omega) (by omega) h3]
   ·obtain rfl:i=l.length:=by omega
    rw[mL ya hz,if_pos ((mY _ _).2 hj)]
  | n+2,hI=>exact hI.elim
theorem Fq:∀ {f:FuncId} {vs:List V} {σ:St} {k:ah},HP f vs σ k→ag Tryz.prog f vs k σ:=fun h=>aR Tb Fp h
def fL (p:Prop) (v:V):Prop:=∃b:Bool,(b=true↔p)∧v=.bool b
omit [aE] in
theorem fL.fY {p:Prop}:∀v,fL p v→dE v:=fun v ⟨b,_,e⟩=>by subst e;exact .bool b
omit [Env] [aE] in
theorem AU {p:Prop} (h:p):fL p (.bool true):=⟨true,⟨fun _=>h,fun _=>rfl⟩,rfl⟩
omit [Env] [aE] in
theorem iQ {p:Prop} (h:¬p):fL p (.bool false):=⟨false,⟨fun c=>(by cases c),fun c=>(h c).elim⟩,rfl⟩
omit [Env] [aE] in
theorem ay.vk {x y:ay} (h0:x.f0=y.f0) (h1:x.f1=y.f1) (h2:x.f2=y.f2) (h3:x.f3=y.f3):x=y:=by
 cases x;cases y;simp only at h0 h1 h2 h3;subst h0;subst h1;subst h2;subst h3;rfl
omit [Env] [aE] in
theorem aa.vk {x y:aa} (h0:x.f0=y.f0) (h1:x.f1=y.f1) (h2:x.f2=y.f2):x=y:=by
 cases x;cases y;simp only at h0 h1 h2;subst h0;subst h1;subst h2;rfl
theorem PW (h:SN vs σ k):ag Tryz.prog 212 vs k σ:=by
 obtain⟨x,y,rfl,h⟩:=h
 refine ag.aU (A:=fL (x=y)) (aA (ay.aG x) (aA (ay.aG y) bm)) fL.fY (F212.flat (live:=Fl) (call:=HP) (n₀:=0) (σ:=Go.Ev.start) (fun h=>Fq h) rfl (by kernel_rfl) ?_) fun v ⟨b,hb,e⟩=>by subst e;exact h b hb
 rw[Z4]
 exact⟨rfl,av (fun h1=>⟨rfl,av (fun h2=>⟨rfl,av (fun h3=>av (fun h4=>AU (ay.vk h1 h2 h3 h4)) fun h4=>iQ fun e=>h4 (by rw[e])) fun h3=>iQ fun e=>h3 (by rw[e])⟩) fun h2=>iQ fun e=>h2 (by rw[e])⟩) fun h1=>iQ fun e=>h1 (by rw[e])⟩
theorem Fs:∀ {f:FuncId} {vs:List V} {σ:St} {k:ah},wM f vs σ k→ag Tryz.prog f vs k σ:=fun h=>aR PW Fq h
set_option maxRecDepth 100000 in
theorem PX (h:SX vs σ k):ag Tryz.prog 164 vs k σ:=by
 obtain⟨x,y,rfl,h⟩:=h
 refine ag.aU (A:=fL (x=y)) (aA (aj.aG x) (aA (aj.aG y) bm)) fL.fY (F164.flat (live:=qT) (call:=wM) (n₀:=0) (σ:=Go.Ev.start) (fun h=>Fs h) rfl (by kernel_rfl) ?_) fun v ⟨b,hb,e⟩=>by subst e;exact h b hb
 obtain⟨a,c,f,u⟩:=x
 obtain⟨b,d,g,v⟩:=y
 have na:a≠b→fL ((⟨a,c,f,u⟩:aj)=⟨b,d,g,v⟩) (.bool false):=fun h=>iQ fun e=>h (by cases e;rfl)
 have nc:c≠d→fL ((⟨a,c,f,u⟩:aj)=⟨b,d,g,v⟩) (.bool false):=fun h=>iQ fun e=>h (by cases e;rfl)
 have nf:f≠g→fL ((⟨a,c,f,u⟩:aj)=⟨b,d,g,v⟩) (.bool false):=fun h=>iQ fun e=>h (by cases e;rfl)
 cases f<;>cases g
 ·exact(PV _ _ a b c d u v).mpr (av (fun h1=>⟨rfl,av (fun h2=>⟨u,v,rfl,fun b hb=>⟨b,hb.trans ⟨fun e=>by rw[h1,h2,e],fun e=>by cases e;rfl⟩,rfl⟩⟩) nc⟩) na)
 ·exact(PU _ _ a b c d u v).mpr (av (fun _=>⟨rfl,av (fun _=>nf (by decide)) nc⟩) na)
 ·exact(PT _ _ a b c d u v).mpr (av (fun _=>⟨rfl,av (fun _=>nf (by decide)) nc⟩) na)
 ·exact(PS _ _ a b c d u v).mpr (av (fun h1=>⟨rfl,av (fun h2=>⟨u,v,rfl,fun b hb=>⟨b,hb.trans ⟨fun e=>by rw[h1,h2,e],fun e=>by cases e;rfl⟩,rfl⟩⟩) nc⟩) na)
theorem Ft:∀ {f:FuncId} {vs:List V} {σ:St} {k:ah},Cr f vs σ k→ag Tryz.prog f vs k σ:=fun h=>aR PX Fs h
def Yi {α:Type} [Inhabited α] (enc:α→V) (esz:Nat) (l m:List α):Nat→List SV→Prop
 | 0,ss=>∃i:Nat,(l.length=m.length∧∀j,j<i→l.getD j default=m.getD j default)∧i≤l.length∧ss=[.val (af enc esz l),.val (af enc esz m),.val (.int .i64 ((i:Nat):Int))]
 | _,_=>False
omit [aE] [Env] in
theorem wN {α:Type} [Inhabited α] {l m:List α} (hl:l.length=m.length) (h:∀i,i<l.length→l.getD i default=m.getD i default):l=m:=Mn hl h
theorem PY (h:S1 vs σ k):ag Tryz.prog 129 vs k σ:=by
 obtain⟨l,m,rfl,hs,h⟩:=h
 refine ag.aU (A:=fL (l=m)) (aA (e6 l) (aA (e6 m) bm)) fL.fY (F129.cG (live:=zh) (call:=Cr) (n₀:=0) (σ:=Go.Ev.start) (fun h=>Ft h) rfl 1 (by kernel_rfl) Nat.lt_wfRel.wf (fun _ ss=>l.length-cF ss) (Yi aj.enc 7 l m) ?_ ?_ ?_) fun v ⟨b,hb,e⟩=>by subst e;exact h b hb
 ·intro k ss hI
  cases k with
  | zero=>obtain⟨i,_,_,rfl⟩:=hI;exact ax (e6 l) (ax (e6 m) (aF bW))
  | succ k=>exact hI.elim
 ·rw[Z5]
  refine⟨rfl,av (fun h1=>iQ fun e=>h1 (by rw[e])) fun h1=>⟨0,⟨by omega,fun j hj=>absurd hj (Nat.not_lt_zero j)⟩,by omega,rfl⟩⟩
 ·intro k hk ss hI
  obtain rfl:k=0:=by omega
  obtain⟨i,⟨hl,cR⟩,hi,rfl⟩:=hI
  rw[Z6]
  refine⟨rfl,av (fun h1=>⟨⟨by omega,by omega⟩,⟨by omega,by omega⟩,_,_,rfl,fun b hb=>ae.mk (fun h2=>iQ fun e=>?_) fun h2=>?_⟩) fun h1=>AU (wN hl fun j hj=>cR j (by omega))⟩
  ·have:=hb.2 (by rw[e]);rw[this] at h2;cases h2
  ·rw[i64_in ((i:Int)+1) (by omega)]
   refine⟨⟨i+1,⟨hl,fun j hj=>?_⟩,by omega,rfl⟩,?_⟩
   ·by_cases ej:j=i
    ·subst ej;exact hb.1 (by simpa using h2)
    ·exact cR j (by omega)
   show l.length-((i:Int)+1).toNat<l.length-(i:Int).toNat
   omega
theorem Fu:∀ {f:FuncId} {vs:List V} {σ:St} {k:ah},HQ f vs σ k→ag Tryz.prog f vs k σ:=fun h=>aR PY Ft h
theorem Tc (h:Yd vs σ k):ag Tryz.prog 76 vs k σ:=by
 obtain⟨x,y,rfl,hs,h⟩:=h
 refine ag.aU (A:=fL (x=y)) (aA (aa.aG x) (aA (aa.aG y) bm)) fL.fY (F76.flat (live:=Kk) (call:=HQ) (n₀:=0) (σ:=Go.Ev.start) (fun h=>Fu h) rfl (by kernel_rfl) ?_) fun v ⟨b,hb,e⟩=>by subst e;exact h b hb
 rw[e76]
 refine av (fun h1=>⟨rfl,av (fun h2=>⟨_,_,rfl,hs,fun b hb=>⟨b,hb.trans ⟨fun h3=>aa.vk h1 h2 h3,fun e=>by rw[e]⟩,rfl⟩⟩) fun h2=>iQ fun e=>h2 (by rw[e])⟩) fun h1=>iQ fun e=>h1 (by rw[e])
theorem Fv:∀ {f:FuncId} {vs:List V} {σ:St} {k:ah},Cs f vs σ k→ag Tryz.prog f vs k σ:=fun h=>aR Tc Fu h
theorem Td (h:Ye vs σ k):ag Tryz.prog 32 vs k σ:=by
 obtain⟨l,m,rfl,hs,h⟩:=h
 refine ag.aU (A:=fL (l=m)) (aA (bX l) (aA (bX m) bm)) fL.fY (F32.cG (live:=Ct) (call:=Cs) (n₀:=0) (σ:=Go.Ev.start) (fun h=>Fv h) rfl 1 (by kernel_rfl) Nat.lt_wfRel.wf (fun _ ss=>l.length-cF ss) (Yi aa.enc 3 l m) ?_ ?_ ?_) fun v ⟨b,hb,e⟩=>by subst e;exact h b hb
 ·intro k ss hI
  cases k with
  | zero=>obtain⟨i,_,_,rfl⟩:=hI;exact ax (bX l) (ax (bX m) (aF bW))
  | succ k=>exact hI.elim
 ·rw[e32]
  refine⟨rfl,av (fun h1=>iQ fun e=>h1 (by rw[e])) fun h1=>⟨0,⟨by omega,fun j hj=>absurd hj (Nat.not_lt_zero j)⟩,by omega,rfl⟩⟩
 ·intro k hk ss hI
  obtain rfl:k=0:=by omega
  obtain⟨i,⟨hl,cR⟩,hi,rfl⟩:=hI
  rw[r32]
  refine⟨rfl,av (fun h1=>⟨⟨by omega,by omega⟩,⟨by omega,by omega⟩,_,_,rfl,hs.2 _ (bf (by omega)),fun b hb=>ae.mk (fun h2=>iQ fun e=>?_) fun h2=>?_⟩) fun h1=>AU (wN hl fun j hj=>cR j (by omega))⟩
  ·have:=hb.2 (by rw[e]);rw[this] at h2;cases h2
  ·rw[i64_in ((i:Int)+1) (by omega)]
   refine⟨⟨i+1,⟨hl,fun j hj=>?_⟩,by omega,rfl⟩,?_⟩
   ·by_cases ej:j=i
    ·subst ej;exact hb.1 (by simpa using h2)
    ·exact cR j (by omega)
   show l.length-((i:Int)+1).toNat<l.length-(i:Int).toNat
   omega
theorem qV:∀ {f:FuncId} {vs:List V} {σ:St} {k:ah},ui f vs σ k→ag Tryz.prog f vs k σ:=fun h=>aR Td Fv h
end
end Go.Proofs.YtbajncpfmemdgaaGreatDoor
end
section
namespace Go.Ev
open Go
section
variable [Env] {P:Program} {σ:St}
inductive mi (τ:St) (b n:Nat) (g:Nat→V) (esz:Nat):V→Prop
 | own {f:Nat→V} {p:Bool} (hb:τ.heap.get b=some (.row n f esz p)) (h:∀i,i<n→bn (τ.kill b) (f i).cells (g i).cells):mi τ b n g esz (.own b n esz)
 | slice {m:Nat} {ex:Bool} {z:List V} {t:Trie V} {p:Bool} (hb:τ.heap.get b=some (.cells (n*esz) z t p false)) (hm:(ex=true∧n≤m)∨(ex=false∧m=n∧n≠0)) (hu:∀i,i<n→(g i).cells.length=esz)
   (h:∀i,i<n→∃cs,cellsOf (n*esz) z t esz (i*esz)=some cs∧bn (τ.kill b) cs (g i).cells):mi τ b n g esz (.slice b 0 n m ex esz)
theorem Cv {τ:St}:∀ {vs us:List V},bn τ vs us→vs.length=us.length
 | _,_,.nil=>rfl
 | _,_,.cons _ hl=>congrArg (·+1) (Cv hl)
theorem mi.cS {τ:St} {b n esz:Nat} {g:Nat→V} {v:V} (h:mi τ b n g esz v) {ρ ρ':Ren} {w:World} {l:Loc} (hr:R ρ τ w) (hl:ρ b=some l)
  (hz:∀ {vs us:List V} {xs:List Value},bn (τ.kill b) vs us→au ρ vs xs→au ρ' us xs):cz ρ' w l (.row n g esz false):=by
 cases h with
 | own hb h=>
  obtain⟨l',cD,dq⟩:=hr.cS b _ hb
  rw[hl] at cD;cases cD
  cases dq with
  | row hs hn hu hv hf hp=>
   rename_i f p
   refine .row hs hn (fun i hi=>by rw[←Cv (h i hi)];exact hu i hi) (fun i hi k v hk=>?_) hf (fun h=>by cases h)
   have key:∃xs:List Value,au ρ (f i).cells xs∧∀(k:Nat) x,xs[k]? =some x→w.cell? ⟨l.c,l.o+(i*esz+k),none⟩=some x:=by
    obtain⟨xs,h1,h2⟩:=oq (ρ:=ρ) (cs:=(f i).cells) (p:=fun k x=>w.cell? ⟨l.c,l.o+(i*esz+k),none⟩=some x) fun k v hk=>hv i hi k v hk
    exact⟨xs,h1,h2⟩
   obtain⟨xs,h1,h2⟩:=key
   obtain⟨x,hx,hr⟩:=au.get (hz (h i hi) h1) _ hk
   exact⟨x,h2 k x hx,hr⟩
 | slice hb hm hu h=>
  obtain⟨l',cD,dq⟩:=hr.cS b _ hb
  rw[hl] at cD;cases cD
  cases dq with
  | cells hs hn hv hf hp=>
   refine .row hs hn hu (fun i hi k v hk=>?_) (hf rfl) (fun h=>by cases h)
   obtain⟨cs,hc,uj⟩:=h i hi
   obtain⟨_,g2⟩:=gh _ _ hc
   obtain⟨xs,h1,h2⟩:=oq (ρ:=ρ) (cs:=cs) (p:=fun k x=>w.cell? ⟨l.c,l.o+(i*esz+k),none⟩=some x) fun k v hk=>hv _ v (g2 k v hk)
   obtain⟨x,hx,hr⟩:=au.get (hz uj h1) _ hk
   exact⟨x,h2 k x hx,hr⟩
theorem mi.val {τ:St} {b n esz:Nat} {g:Nat→V} {v:V} (h:mi τ b n g esz v) {ρ ρ':Ren} {x:Value} {i:Nat} (hx:aq ρ v x) (hi:∀l,ρ b=some l→ρ' i=some l):aq ρ' (.own i n esz) x:=by
 cases h with
 | own hb h=>
  cases hx with
  | own hl hc hN=>exact .own (hi _ hl) hc hN
 | slice hb hm hu h=>
  cases hx with
  | slice hl hex dy hN hn=>
   rcases hm with ⟨rfl,hm⟩ | ⟨rfl,rfl,hm⟩
   ·obtain⟨rfl,rfl⟩:=hex rfl
    exact .own (hi _ hl) hm (by simpa using hN)
   ·obtain⟨h1,h2⟩:=dy rfl
    rcases h2 with h2 | h2
    ·subst h2;exact .own (hi _ hl) h1 (by simpa using hN)
    ·exact absurd h2.1 hm
theorem mi.at {τ:St} {b n esz:Nat} {g:Nat→V} {v:V} (h:mi τ b n g esz v):∃q,τ.heap.get b=some q:=by
 cases h with
 | own hb h=>exact⟨_,hb⟩
 | slice hb hm hu h=>exact⟨_,hb⟩
mutual
theorem dQ.fx {σ:St}:∀ {v u:V},dQ start v u→dQ σ v u
 | _,_,.clean h=>.clean h
 | _,_,.jM h=>.jM h.fx
 | _,_,.arr h hu he hn=>.arr (fun i hi=>(h i hi).fx) hu he hn
 | _,_,.own hb _ _=>by rw[et] at hb;cases hb
 | _,_,.int k n=>.int k n
 | _,_,.bool b=>.bool b
 | _,_,.str s=>.str s
 | _,_,.dJ k b=>.dJ k b
 | _,_,.any i=>.any i
 | _,_,.dj=>.dj
 | _,_,.dB=>.dB
 | _,_,.cH=>.cH
 | _,_,.aW=>.aW
 | _,_,.ai=>.ai
 | _,_,.empty e x=>.empty e x
 | _,_,.bj h hu hn he=>.bj h.fx hu hn he
 | _,_,.aK h=>.aK h.fx
 | _,_,.BW hc _=>by simp [St.cells,et] at hc
 | _,_,.func hx hy=>.func hx.fx hy.fx
 | _,_,.slice hc _ _ _=>by simp [St.cells,et] at hc
 | _,_,.agg h=>.agg h.fx
 | _,_,.tuple h=>.tuple h.fx
 | _,_,.iface h=>.iface h.fx
theorem bn.fx {σ:St}:∀ {vs us:List V},bn start vs us→bn σ vs us
 | _,_,.nil=>.nil
 | _,_,.cons h hl=>.cons h.fx hl.fx
end
def bk (σ:St) (k:ah) (v:V) (τ:St):Prop:=
 (∃u,dQ τ v u∧k u σ)∨
 (∃b n g esz,mi τ b n g esz v∧k (.own σ.next n esz) (σ.new σ.next (.row n g esz false)))∨
 ∃b n g esz w e e',v=.tuple [w,e]∧mi τ b n g esz w∧dQ (τ.kill b) e e'∧k (.tuple [.own σ.next n esz,e']) (σ.new σ.next (.row n g esz false))
theorem bk.ex {σ:St} {k:ah} {v:V} {τ:St} (h:bk σ k v τ):∃v σ,k v σ:=by
 rcases h with ⟨u,_,h⟩ | ⟨b,n,g,esz,_,h⟩ | ⟨b,n,g,esz,w,e,e',_,_,_,h⟩
 ·exact⟨_,_,h⟩
 ·exact⟨_,_,h⟩
 ·exact⟨_,_,h⟩
theorem ag.Te {f:FuncId} {vs us:List V} {σk σf:St} {k:ah} (hk:∀b q,σk.heap.get b=some q→σ.heap.get b=some q) (hf:∀b q,σf.heap.get b=some q→σ.heap.get b=some q)
  (hd:∀b q q',σk.heap.get b=some q→σf.heap.get b=some q'→False) (hn:σk.next=σ.next) (NI:σf.next=σ.next) (uj:bn σf vs us) (h:bH P f us (bk σk k) start):ag P f vs k σ:=by
 refine⟨⟨?_,?_⟩⟩
 ·obtain⟨v,τ,hx⟩:=h.ex
  obtain⟨u,σ',hu⟩:=bk.ex hx;exact⟨(.val u,σ'),hu⟩
 ·intro ρ w vs' hr hv
  let G:Nat→Prop:=fun c=>∃b q l,σf.heap.get b=some q∧ρ b=some l∧l.c=c
  let bF:Ren:=⟨fun _=>none,fun c o=>open Classical in if G c then w.cell? ⟨c,o,none⟩ else ρ.aL c o⟩
  have vl:∀c o x,ρ.aL c o=some x→bF.aL c o=some x:=by
   intro c o x hx
   show(open Classical in if G c then w.cell? ⟨c,o,none⟩ else ρ.aL c o)=some x
   by_cases hg:G c
   ·rw[if_pos hg];exact(hr.aL c o x hx).1
   ·rw[if_neg hg];exact hx
  have qW:∀c o x,bF.aL c o=some x→w.cell? ⟨c,o,none⟩=some x∧(G c∨(ρ.aL c o=some x∧¬G c)):=by
   intro c o x hx
   replace hx:(open Classical in if G c then w.cell? ⟨c,o,none⟩ else ρ.aL c o)=some x:=hx
   by_cases hg:G c
   ·rw[if_pos hg] at hx;exact⟨hx,.inl hg⟩
   ·rw[if_neg hg] at hx;exact⟨(hr.aL c o x hx).1,.inr ⟨hx,hg⟩⟩
  have OH:∀ {ρ:Ren} {c:Nat},¬Wr ρ start c:=fun {_ _} ⟨b,k,l,h,_⟩=>by rw[et] at h;cases h
  have xP:R bF start w:=⟨fun b k hb=>(by rw[et] at hb;cases hb),fun b b' k k' l l' hb=>(by rw[et] at hb;cases hb),fun _ _=>rfl,fun _ _ h=>(by cases h),fun c o x hx=>⟨(qW c o x hx).1,OH⟩,fun q hq=>vl _ _ _ (hr.laid q hq)⟩
  have xO:au bF us vs':=eY (hr.sub hf NI) vl (fun b k l hb hl o x hx=>by
   show(open Classical in if G l.c then w.cell? ⟨l.c,o,none⟩ else ρ.aL l.c o)=some x
   rw[if_pos ⟨b,k,l,hb,hl,rfl⟩];exact hx) uj hv
  obtain⟨g1,g2⟩:=h.h bF w vs' xP xO
  refine⟨g1,g2.mono fun e w' hx=>?_⟩
  obtain⟨v,τ,bI,v',hq,rfl,lE,az⟩:=hx
  have hold:∀c,c<w.heap.size→w'.heap[c]? =w.heap[c]? :=fun c hc=>az.aJ c hc OH
  have ft:∀b q l,τ.heap.get b=some q→bI b=some l→¬l.c<w.heap.size:=fun b q l hb hl hc=>OH (az.wr l.c hc ⟨b,q,l,hb,rfl,hl,rfl⟩)
  have OI:∀c o x,c<w.heap.size→bI.aL c o=some x→bF.aL c o=some x:=by
   intro c o x hc hx
   rcases az.gq c o x hx with h1 | h1 | h1
   ·exact h1
   ·omega
   ·exact absurd h1 OH
  have Yj:∀c o x,bF.aL c o=some x→¬Wr ρ σk c:=by
   rintro c o x hx ⟨b,q,l,h1,_,h3,h4⟩
   rcases(qW c o x hx).2 with ⟨b',q',l',e1,e2,e3⟩ | ⟨e1,_⟩
   ·have:=hr.inj b b' q q' l l' (hk _ _ h1) (hf _ _ e1) h3 e2 (h4.trans e3.symm)
    subst this
    exact hd _ _ _ h1 e1
   ·exact(hr.aL c o x e1).2 ⟨b,q,l,hk _ _ h1,rfl,h3,h4⟩
  have Yk:∀c o x,bF.aL c o=some x→ρ.aL c o=some x∨w.heap.size≤c∨Wr ρ σ c:=by
   intro c o x hx
   rcases(qW c o x hx).2 with ⟨b',q',l',e1,e2,e3⟩ | ⟨e1,_⟩
   ·exact .inr (.inr ⟨b',q',l',hf _ _ e1,rfl,e2,e3⟩)
   ·exact .inl e1
  have bz:∀b l,ρ b=some l→b<σ.next:=fun b l hb=>Nat.lt_of_not_le fun hle=>by rw[hr.fresh b hle] at hb;cases hb
  have row:∀ {b n esz:Nat} {g:Nat→V} {u:V},mi τ b n g esz u→∃bg:Ren,bc ph ρ σ w bg (σk.new σk.next (.row n g esz false)) w'∧(∀x,aq bI u x→aq bg (.own σk.next n esz) x)∧∀ {e e':V} {x:Value},dQ (τ.kill b) e e'→aq bI e x→aq bg e' x:=by
   intro b n esz g u rC
   obtain⟨q,hb⟩:=rC.at
   obtain⟨cc,fC,_⟩:=az.r.cS b q hb
   have yb:=ft b q cc hb fC
   have Tf:=az.r.valid b cc fC
   let bg:Ren:=⟨fun i=>if i=σk.next then some cc else ρ i,fun c o=>if c<w.heap.size then bF.aL c o else if c=cc.c then none else w'.cell? ⟨c,o,none⟩⟩
   have AV:∀i l,bg i=some l→(i=σk.next∧l=cc)∨ρ i=some l:=by
    intro i l hi
    replace hi:(if i=σk.next then some cc else ρ i)=some l:=hi
    by_cases e:i=σk.next
    ·rw[if_pos e] at hi;cases hi;exact .inl ⟨e,rfl⟩
    ·rw[if_neg e] at hi;exact .inr hi
   have Fw:∀c o x,bI.aL c o=some x→bg.aL c o=some x:=by
    intro c o x hx
    show(if c<w.heap.size then bF.aL c o else if c=cc.c then none else w'.cell? ⟨c,o,none⟩)=some x
    by_cases hc:c<w.heap.size
    ·rw[if_pos hc];exact OI c o x hc hx
    ·have h2:=az.r.aL c o x hx
     rw[if_neg hc,if_neg fun e=>h2.2 ⟨b,q,cc,hb,rfl,fC,e.symm⟩];exact h2.1
   have hle:ρ.le bg:=⟨fun i l hi=>by
    show(if i=σk.next then some cc else ρ i)=some l
    rw[if_neg fun e=>by have:=bz i l hi;omega];exact hi,fun c o x hx=>by
    show(if c<w.heap.size then bF.aL c o else _)=some x
    rw[if_pos (fB (hr.aL c o x hx).1)];exact vl c o x hx⟩
   have OJ:R bI (τ.kill b) w':=az.r.sub (fun c k hc=>by
    rw[gU] at hc
    by_cases e:c=b
    ·rw[if_pos e] at hc;cases hc
    ·rw[if_neg e] at hc;exact hc) rfl
   have hblk:∀b' k l,(τ.kill b).heap.get b'=some k→bI b'=some l→∀o x,w'.cell? ⟨l.c,o,none⟩=some x→bg.aL l.c o=some x:=by
    intro b' k l bq hl o x hx
    rw[gU] at bq
    by_cases e:b'=b
    ·rw[if_pos e] at bq;cases bq
    ·rw[if_neg e] at bq
     show(if l.c<w.heap.size then bF.aL l.c o else if l.c=cc.c then none else w'.cell? ⟨l.c,o,none⟩)=some x
     rw[if_neg (ft b' k l bq hl),if_neg fun h=>e (az.r.inj b' b k q l cc bq hb hl fC h)]
     exact hx
   refine⟨bg,⟨⟨fun i k hi=>?_,fun i j k k' l l' h1 h2 g1 g2 e=>?_,fun i hi=>?_,fun i l hi=>?_,fun c o x hx=>?_,hr.qv hle⟩,hle,?_,fun i l hi=>?_,az.size,az.os,az.tape,az.output,fun c hc _=>hold c hc,fun c hc hw=>?_,fun i k hi=>?_,fun c o x hx=>?_⟩,fun x hx=>rC.val hx fun l hl=>?_,fun he hx=>mc OJ Fw hblk he hx⟩
   ·rw[ia] at hi
    by_cases e:i=σk.next
    ·rw[if_pos e] at hi;cases hi
     exact⟨cc,if_pos e,rC.cS az.r fC fun hz hx=>eY OJ Fw hblk hz hx⟩
    ·rw[if_neg e] at hi
     obtain⟨l,hl,dq⟩:=hr.cS i k (hk _ _ hi)
     exact⟨l,hle i l hl,dq.same hle (hold l.c (hr.valid i l hl))⟩
   ·rw[ia] at h1 h2
    by_cases e1:i=σk.next
    ·by_cases e2:j=σk.next
     ·rw[e1,e2]
     ·rw[if_neg e2] at h2
      have zZ:(if i=σk.next then some cc else ρ i)=some l:=g1
      have vM:(if j=σk.next then some cc else ρ j)=some l':=g2
      rw[if_pos e1] at zZ;rw[if_neg e2] at vM
      cases zZ
      exact absurd (by rw[e];exact hr.valid j l' vM) yb
    ·rw[if_neg e1] at h1
     have zZ:(if i=σk.next then some cc else ρ i)=some l:=g1
     rw[if_neg e1] at zZ
     by_cases e2:j=σk.next
     ·have vM:(if j=σk.next then some cc else ρ j)=some l':=g2
      rw[if_pos e2] at vM;cases vM
      exact absurd (by rw[←e];exact hr.valid i l zZ) yb
     ·rw[if_neg e2] at h2
      have vM:(if j=σk.next then some cc else ρ j)=some l':=g2
      rw[if_neg e2] at vM
      exact hr.inj i j k k' l l' (hk _ _ h1) (hk _ _ h2) zZ vM e
   ·rw[pB] at hi
    show(if i=σk.next then some cc else ρ i)=none
    rw[if_neg (by omega)]
    exact hr.fresh i (by omega)
   ·rcases AV i l hi with ⟨_,rfl⟩ | hi
    ·exact Tf
    ·exact Nat.lt_of_lt_of_le (hr.valid i l hi) az.size
   ·replace hx:(if c<w.heap.size then bF.aL c o else if c=cc.c then none else w'.cell? ⟨c,o,none⟩)=some x:=hx
    have wr:Wr bg (σk.new σk.next (.row n g esz false)) c→c=cc.c∨Wr ρ σk c:=by
     rintro⟨i,k,l,h1,_,h3,h4⟩
     rw[ia] at h1
     rcases AV i l h3 with ⟨_,rfl⟩ | Km
     ·exact .inl h4.symm
     ·by_cases e:i=σk.next
      ·have:=bz i l Km;omega
      ·rw[if_neg e] at h1
       exact .inr ⟨i,k,l,h1,rfl,Km,h4⟩
    by_cases hc:c<w.heap.size
    ·rw[if_pos hc] at hx
     refine⟨by rw[cell?_of_block (hold c hc)];exact(qW c o x hx).1,fun hw=>?_⟩
     rcases wr hw with h1 | h1
     ·exact yb (by rw[←h1];exact hc)
     ·exact Yj c o x hx h1
    ·rw[if_neg hc] at hx
     by_cases gx:c=cc.c
     ·rw[if_pos gx] at hx;cases hx
     ·rw[if_neg gx] at hx
      refine⟨hx,fun hw=>?_⟩
      rcases wr hw with h1 | ⟨i,k,l,_,_,h3,h4⟩
      ·exact gx h1
      ·exact hc (by rw[←h4];exact hr.valid i l h3)
   ·rw[pB];omega
   ·rcases AV i l hi with ⟨rfl,_⟩ | hi
    ·exact .inr (.inl (by omega))
    ·exact .inl hi
   ·obtain⟨i,k,l,h1,_,h3,h4⟩:=hw
    rw[ia] at h1
    rcases AV i l h3 with ⟨_,rfl⟩ | Km
    ·exact absurd (by rw[h4];exact hc) yb
    ·by_cases e:i=σk.next
     ·have:=bz i l Km;omega
     ·rw[if_neg e] at h1
      exact⟨i,k,l,hk _ _ h1,rfl,Km,h4⟩
   ·rw[ia] at hi
    by_cases e:i=σk.next
    ·exact .inr (.inl (by omega))
    ·rw[if_neg e] at hi;exact .inl ⟨k,hk _ _ hi⟩
   ·replace hx:(if c<w.heap.size then bF.aL c o else if c=cc.c then none else w'.cell? ⟨c,o,none⟩)=some x:=hx
    by_cases hc:c<w.heap.size
    ·rw[if_pos hc] at hx;exact Yk c o x hx
    ·exact .inr (.inl (Nat.le_of_not_lt hc))
   ·rw[fC] at hl;cases hl
    exact if_pos rfl
  rcases hq with ⟨u,vG,Kn⟩ | ⟨b,n,g,esz,rC,Kn⟩ | ⟨b,n,g,esz,u,e,e',rfl,rC,he,Kn⟩
  ·let bg:Ren:=⟨ρ.at',fun c o=>if c<w.heap.size then bF.aL c o else w'.cell? ⟨c,o,none⟩⟩
   have hle:ρ.le bg:=⟨fun b l hb=>hb,fun c o x hx=>by
    show(if c<w.heap.size then bF.aL c o else _)=some x
    rw[if_pos (fB (hr.aL c o x hx).1)];exact vl c o x hx⟩
   have wE:∀c o x,bI.aL c o=some x→bg.aL c o=some x:=by
    intro c o x hx
    show(if c<w.heap.size then bF.aL c o else _)=some x
    by_cases hc:c<w.heap.size
    ·rw[if_pos hc];exact OI c o x hc hx
    ·rw[if_neg hc];exact(az.r.aL c o x hx).1
   have hblk:∀b q l,τ.heap.get b=some q→bI b=some l→∀o x,w'.cell? ⟨l.c,o,none⟩=some x→bg.aL l.c o=some x:=by
    intro b q l hb hl o x hx
    show(if l.c<w.heap.size then bF.aL l.c o else _)=some x
    rw[if_neg (ft b q l hb hl)]
    exact hx
   refine⟨u,σk,bg,v',Kn,rfl,mc az.r wE hblk vG lE,⟨⟨fun b q hb=>?_,fun i j k k' l l' h1 h2 g1 g2 e=>hr.inj i j k k' l l' (hk _ _ h1) (hk _ _ h2) g1 g2 e,fun i hi=>hr.fresh i (by omega),fun b l hb=>Nat.lt_of_lt_of_le (hr.valid b l hb) az.size,fun c o x hx=>?_,hr.qv hle⟩,hle,by omega,fun b l hb=>.inl hb,az.size,az.os,az.tape,az.output,
    fun c hc _=>hold c hc,fun c _ ⟨i,q,l,h1,_,h3,h4⟩=>⟨i,q,l,hk _ _ h1,rfl,h3,h4⟩,fun b q hb=>.inl ⟨q,hk _ _ hb⟩,fun c o x hx=>?_⟩⟩
   ·obtain⟨l,hl,dq⟩:=hr.cS b q (hk _ _ hb)
    exact⟨l,hl,dq.same hle (hold l.c (hr.valid b l hl))⟩
   ·replace hx:(if c<w.heap.size then bF.aL c o else w'.cell? ⟨c,o,none⟩)=some x:=hx
    by_cases hc:c<w.heap.size
    ·rw[if_pos hc] at hx
     exact⟨by rw[cell?_of_block (hold c hc)];exact(qW c o x hx).1,Yj c o x hx⟩
    ·rw[if_neg hc] at hx
     refine⟨hx,?_⟩
     rintro⟨b,q,l,_,_,h3,h4⟩
     exact hc (by rw[←h4];exact hr.valid b l h3)
   ·replace hx:(if c<w.heap.size then bF.aL c o else w'.cell? ⟨c,o,none⟩)=some x:=hx
    by_cases hc:c<w.heap.size
    ·rw[if_pos hc] at hx;exact Yk c o x hx
    ·exact .inr (.inl (Nat.le_of_not_lt hc))
  ·obtain⟨bg,h1,h2,_⟩:=row rC
   exact⟨_,_,bg,v',Kn,rfl,h2 _ lE,h1⟩
  ·obtain⟨bg,h1,h2,h3⟩:=row rC
   cases lE with
   | tuple lE=>
    cases lE with
    | cons ha hb=>
     cases hb with
     | cons hb hc=>
      cases hc
      exact⟨_,_,bg,_,Kn,rfl,.tuple (.cons (h2 _ ha) (.cons (h3 he hb) .nil)),h1⟩
theorem ag.aJ {f:FuncId} {vs us:List V} {k:ah} (uj:bn start vs us) (h:bH P f us (bk σ k) start):ag P f vs k σ:=
 ag.Te (σk:=σ) (σf:=void σ.next) (fun _ _ h=>h) (fun b q h=>by rw[me] at h;cases h) (fun b q q' _ h=>by rw[me] at h;cases h) rfl rfl (bn.fx uj) h
theorem ag.mj {f:FuncId} {vs us:List V} {k:ah} (uj:bn σ vs us) (h:bH P f us (bk (void σ.next) k) start):ag P f vs k σ:=
 ag.Te (σk:=void σ.next) (σf:=σ) (fun b q h=>by rw[me] at h;cases h) (fun _ _ h=>h) (fun b q q' h=>by rw[me] at h;cases h) rfl rfl uj h
theorem bH.imp {f:FuncId} {vs us:List V} {Q:ah} (hi:∀ρ xs,au ρ vs xs→au ρ us xs) (h:bH P f us Q σ):bH P f vs Q σ:=
 ⟨h.ex,fun ρ w vs' hr hv=>h.h ρ w vs' hr (hi ρ vs' hv)⟩
noncomputable def aU (q:bR):St:=⟨Trie.put .leaf 0 (some q),1⟩
omit [Env] in
theorem Mp {q k:bR} {i:Nat} (h:(aU q).heap.get i=some k):i=0∧k=q:=by
 have h':(Trie.put .leaf 0 (some q)).get i=some k:=h
 rw[Trie.bN] at h'
 by_cases e:i=0
 ·rw[if_pos e] at h';cases h';exact⟨e,rfl⟩
 ·rw[if_neg e,Trie.eG] at h';cases h'
theorem ag.Z8 {f:FuncId} {cs:List V} {b n esz:Nat} {g:Nat→V} {p:Bool} {es:List V} {A:Nat→(Nat→V)→Prop} {k:ah} (hb:σ.heap.get b=some (.row n g esz p)) (hu:∀i,i<n→(g i).cells.length=esz) (hg:∀i,i<n→∀u∈(g i).cells,Clean u)
  (he:es=ar (bY n g)) (dC:∀v∈cs,Clean v) (h:bH P f (.slice 0 0 n n false esz::cs) (eD esz A) (aU (.cells (n*esz) [] (an es .leaf 0) false false))) (hk:∀n g,A n g→k (.own σ.next n esz) ((σ.kill b).new σ.next (.row n g esz false))):ag P f (.own b n esz::cs) k σ:=
 ag.frame (m:=fun i=>if i=0 then some b else none) (σ₀:=aU (.cells (n*esz) [] (an es .leaf 0) false false)) (fun i j c h1 h2=>by
   by_cases e1:i=0
   ·by_cases e2:j=0
    ·rw[e1,e2]
    ·simp only[if_neg e2] at h2;cases h2
   ·simp only[if_neg e1] at h1;cases h1)
  (fun i hi=>if_neg (by have:1≤i:=hi;omega))
  (fun i k hi=>by
   obtain⟨rfl,rfl⟩:=Mp hi
   refine⟨b,_,if_pos rfl,hb,.ofRow fun i v hv=>?_⟩
   subst he
   rcases fM hv with ⟨_,h2,h3⟩ | ⟨_,h2⟩
   ·rw[Nat.sub_zero] at h3
    have cL:=fW hu
    have bz:i<n*esz:=by
     have:=(List.getElem?_eq_some_iff.1 h3).1
     rwa [cW cL,aT] at this
    have h0:0<esz:=by
     rcases Nat.eq_zero_or_pos esz with h | h
     ·subst h;simp at bz
     ·exact h
    have hi:i/esz<n:=(Nat.div_lt_iff_lt_mul h0).2 bz
    have eA:i%esz<esz:=Nat.mod_lt _ h0
    have e:i/esz*esz+i%esz=i:=by rw[Nat.mul_comm];exact Nat.div_add_mod i esz
    have Tg:=fO cL (c9 (f:=g) hi) eA
    rw[e,h3] at Tg
    exact⟨_,_,v,hi,e.symm,Tg.symm,.clean (hg _ hi v (List.mem_of_getElem? Tg.symm))⟩
   ·unfold cellOf at h2
    split at h2
    ·rw[Trie.eG] at h2;simp [dz] at h2
    ·cases h2)
  (.cons (.Oa (if_pos rfl)) (eE.clean dC)) h
  (R5 (κ:=σ.kill b) (fun i k hi=>by
   rw[gU] at hi
   by_cases e:i=b
   ·rw[if_pos e] at hi;cases hi
   ·rw[if_neg e] at hi
    refine⟨hi,fun j k' _ hj=>?_⟩
    by_cases ej:j=0
    ·simp only[if_pos ej] at hj;cases hj;exact e rfl
    ·simp only[if_neg ej] at hj;cases hj) rfl hk)
end
end Go.Ev
end
section
namespace Go.Proofs.YtbajncpfmemdgaaGreatDoor
open Go Go.Ev
def dY (t:aa):Prop:=∀c∈t.f2,E8 c.f3
def e7 (c:ak):Prop:=E8 c.f8.f3∧dY c.f9
def bA (t:aa) (s:List UInt8):Int:=cb s (fun i=>(t.f2.getD i default).f0) t.f2.length
def bp {α:Type} (p:Nat→Bool) (q:Nat→α):Nat→List α
 | 0=>[]
 | n+1=>if p n=true then bp p q n++[q n] else bp p q n
def fk (l:List (List UInt8)) (s:List UInt8):Int:=cb s (fun i=>l.getD i default) l.length
noncomputable def oO (t:aa) (c:aj):Int:=
 if bV c≠0 then bV c else if 0≤bA t c.f0 then 12 else if 8≤t.f2.length then 2 else if c.f2=false∧c.f3.f0=0 then 11 else 0
def kF (t:aa) (c:aj):aa:=⟨t.f0,t.f1,t.f2++[c]⟩
def yc (t:aa) (s:List UInt8):Int:=if bA t s<t.f1 then 10 else 0
def yd (t:aa) (s:List UInt8):aa:=⟨t.f0,t.f1,bp (fun i=>decide ((i:Int)≠bA t s)) (fun i=>t.f2.getD i default) t.f2.length⟩
def ye (t:aa) (s:List UInt8):aj:=t.f2.getD (bA t s).toNat default
def Cw (t:aa) (s:List UInt8) (d:Int):Int:=if bA t s<t.f1 then 10 else if lK (ye t s).f1 d=true then 0 else 5
noncomputable def HS (x:aj) (d:Int):aj:=⟨x.f0,d,x.f2,Cl x.f3 d⟩
noncomputable def Cx (t:aa) (s:List UInt8) (d:Int):aa:=⟨t.f0,t.f1,t.f2.set (bA t s).toNat (HS (ye t s) d)⟩
noncomputable def oP (t:aa) (c:ak):Int:=
 if aP c.f3≠0 then aP c.f3 else if aP c.f4≠0 then aP c.f4 else if c.f3=c.f4 then 12
 else cZ (fun i=>if bA t (c.f7.getD i default)<t.f1∨fk c.f7 (c.f7.getD i default)≠i then 10 else 0) c.f7.length
def named (t:aa) (c:ak) (i:Nat):Bool:=decide (0≤fk c.f7 (t.f2.getD i default).f0)
def jd (t:aa) (c:ak) (b:Bool) (i:Nat):Bool:=decide ((i:Int)<t.f1)||(named t c i==b)
def oQ (t:aa) (c:ak):List aa:=
 [⟨c.f3,t.f1,bp (jd t c true) (fun i=>t.f2.getD i default) t.f2.length⟩,⟨c.f4,t.f1,bp (jd t c false) (fun i=>t.f2.getD i default) t.f2.length⟩]
noncomputable def zi (t u:aa) (c:ak):Int:=
 if c.f1=c.f2 then 12 else if aP c.f3≠0 then aP c.f3 else @ite _ (t.f1≠u.f1∨t.f2≠u.f2) (Classical.propDecidable _) 11 0
def Th (t:aa) (c:ak):aa:=⟨c.f3,t.f1,t.f2⟩
def aQ (c:ak):List (List UInt8):=if c.f0=6 then [c.f1,c.f2] else if 2≤c.f0∧c.f0≤5 then [c.f1] else []
noncomputable def kE (c:ak) (t u:aa):Int:=
 if c.f0=1 then bB c.f9 else if c.f0=2 then oO t c.f8 else if c.f0=3 then yc t c.f5 else if c.f0=4 then Cw t c.f5 c.f6 else if c.f0=5 then oP t c else zi t u c
noncomputable def kT (c:ak) (t:aa):List aa:=
 if c.f0=1 then [c.f9] else if c.f0=2 then [kF t c.f8] else if c.f0=3 then [yd t c.f5] else if c.f0=4 then [Cx t c.f5 c.f6] else if c.f0=5 then oQ t c else [Th t c]
noncomputable def aC (l:List aa) (s:List UInt8):aa:=l.getD (bh l s).toNat default
noncomputable def ew (l:List aa) (ss:List (List UInt8)):Int:=cZ (fun i=>if bh l (ss.getD i default)<0 then 9 else 0) ss.length
noncomputable def OK (l:List aa) (ss:List (List UInt8)) (out:List aa):Int:=cZ (fun i=>if 0≤bh l (out.getD i default).f0∧fk ss (out.getD i default).f0<0 then 12 else 0) out.length
noncomputable def cx (l:List aa) (c:ak):Int:=
 if cr l≠0 then cr l else if c.f0<1∨6<c.f0 then 1 else if ew l (aQ c)≠0 then ew l (aQ c)
 else if kE c (aC l c.f1) (aC l c.f2)≠0 then kE c (aC l c.f1) (aC l c.f2) else OK l (aQ c) (kT c (aC l c.f1))
noncomputable def bZ (l:List aa) (c:ak):List aa:=if cx l c=0 then kT c (aC l c.f1) else []
def bC (n:Nat) (f:Nat→V) (l:List aj):Prop:=n=l.length∧∀i,i<n→f i=aj.enc (l.getD i default)
noncomputable def OL (l:List Int):Int:=cZ (fun i=>l.getD i default) l.length
def aM:List aj→List V
 | []=>[]
 | x::r=>x.cells++aM r
def dG:aj:=⟨[],0,false,⟨0,0,0,[]⟩⟩
def zj:Nat→List Nat:=(fun i=>match i with | 0=>[0,1,7,8] | _=>[])
theorem Z9 [Env] (A:Nat→List SV→Prop) (Q:V→Prop) (n:Nat) (h:Nat→List UInt8) (s:List UInt8):WE Tryz.prog 122 Tryz.f122 Cu 0 zj A (fun v _=>Q v) [V.arr n (fun i=>V.str (h i)) 1 false false,.str s] Go.Ev.start=
  (A 0 [.val (V.arr n (fun i=>V.str (h i)) 1 false false),.val (.str s),.val (.int .i64 (((n:Nat):Int))),.val (.int .i64 (0:Int))]):=by kernel_rfl
theorem aaa [Env] (A:Nat→List SV→Prop) (Q:V→Prop) (n:Nat) (h:Nat→List UInt8) (s:List UInt8) (m i:Int):WL Tryz.prog 122 Tryz.f122 Cu 0 zj A (fun v _=>Q v) 0 [.val (V.arr n (fun i=>V.str (h i)) 1 false false),.val (.str s),.val (.int .i64 m),.val (.int .i64 i)]=
  (((.i64:IntKind)=.i64∧ae (decide (i<m)) (((0≤i∧i<((n:Nat):Int))∧ae (decide (s=(h i.toNat))) (Q (.int .i64 i)) (A 0 [.val (V.arr n (fun i=>V.str (h i)) 1 false false),.val (.str s),.val (.int .i64 m),.val (.int .i64 (IntKind.i64.wrap (i+(1:Int))))]))) (Q (.int .i64 (-1:Int))))):=by kernel_rfl
def Mq [Env] (vs:List V) (σ:St) (k:ah):Prop:=
 match vs with
 | [.arr n f 1 false false,.str s]=>∃q:Nat→List UInt8,f=(fun i=>V.str (q i))∧n≤1000000∧k (.int .i64 (cb s q n)) σ
 | _=>False
def HT [Env]:=kS 122 Mq Cu
def Ko:Nat→List Nat:=(fun _=>[])
theorem e73 [Env] (A:Nat→List SV→Prop) (Q:V→Prop) (n:Nat) (h:Nat→List UInt8) (s:List UInt8):WE Tryz.prog 73 Tryz.f73 HT 0 Ko A (fun v _=>Q v) [V.arr n (fun i=>V.str (h i)) 1 false false,.str s] Go.Ev.start=
  ((∃Ti:Nat→List UInt8,(fun i=>V.str (h i))=(fun i=>V.str (Ti i))∧n≤1000000∧((.i64:IntKind)=.i64∧ae (decide ((cb s Ti n)≥(0:Int))) (Q (.bool true)) (Q (.bool false))))):=by kernel_rfl
def Tj [Env] (vs:List V) (σ:St) (k:ah):Prop:=
 match vs with
 | [.arr n f 1 false false,.str s]=>∃q:Nat→List UInt8,f=(fun i=>V.str (q i))∧n≤1000000∧k (.bool (decide (0≤cb s q n))) σ
 | _=>False
def HU [Env]:=kS 73 Tj HT
def Fx:Nat→List Nat:=(fun _=>[])
theorem aab [Env] (A:Nat→List SV→Prop) (Q:V→Prop) (n:Nat) (h:Nat→List UInt8) (s:List UInt8):WE Tryz.prog 250 Tryz.f250 HU 0 Fx A (fun v _=>Q v) [V.arr n (fun i=>V.str (h i)) 1 false false,.str s] Go.Ev.start=
  ((∃Tk:Nat→List UInt8,(fun i=>V.str (h i))=(fun i=>V.str (Tk i))∧n≤1000000∧Q (.int .i64 (cb s Tk n)))):=by kernel_rfl
def Mr [Env] (vs:List V) (σ:St) (k:ah):Prop:=
 match vs with
 | [.arr n f 1 false false,.str s]=>∃q:Nat→List UInt8,f=(fun i=>V.str (q i))∧n≤1000000∧k (.int .i64 (cb s q n)) σ
 | _=>False
def HV [Env]:=kS 250 Mr HU
def Fy:Nat→List Nat:=(fun _=>[])
theorem aac [Env] (A:Nat→List SV→Prop) (Q:V→Prop) (t:aa) (s:List UInt8):WE Tryz.prog 226 Tryz.f226 HV 0 Fy A (fun v _=>Q v) [aa.enc t,.str s] Go.Ev.start=
  ((∃Tl:Nat→aj,(fun i=>aj.enc (t.f2.getD i default))=(fun i=>aj.enc (Tl i))∧t.f2.length≤1000∧(∃Tm:Nat→List UInt8,(fun i=>V.str ((fun i=>(Tl i).f0) i))=(fun i=>V.str (Tm i))∧t.f2.length≤1000000∧Q (.int .i64 (cb s Tm t.f2.length))))):=by kernel_rfl
def Tn [Env] (vs:List V) (σ:St) (k:ah):Prop:=
 ∃(t:aa) (s:List UInt8),vs=[aa.enc t,.str s]∧t.f2.length≤1000∧k (.int .i64 (bA t s)) σ
def Cy [Env]:=kS 226 Tn HV
def Cz:Nat→List Nat:=(fun _=>[])
theorem Yl [Env] (A:Nat→List SV→Prop) (Q:V→St→Prop) (l:List aj):WE Tryz.prog 74 Tryz.f74 Cy 0 Cz A Q [Hd aj.enc 7 l] Go.Ev.start=
  (ae (decide (l.length=0)) (Q (.slice 0 0 (0) (0) true 7) ⟨(St.new Go.Ev.start 0 (.cells 0 [] (an [] .leaf 0) true false)).heap,1⟩) (l.length*72≤1099511627776∧Q (.own 1 l.length 7) ⟨(St.new (St.new Go.Ev.start 0 (.cells 0 [] (an [] .leaf 0) true false)) 1 (.row l.length (fun i=>aj.enc (l.getD i default)) 7 true)).heap,2⟩)):=by kernel_rfl
def Ym [Env] (vs:List V) (σ:St) (k:ah):Prop:=
 ∃l:List aj,vs=[af aj.enc 7 l]∧(0<l.length∧l.length≤1000)∧k (.own σ.next l.length 7) (σ.new σ.next (.row l.length (fun i=>aj.enc (l.getD i default)) 7 false))
def ca [Env]:=kS 74 Ym Cy
theorem Ms [Env] (A:Nat→List SV→Prop) (Q:V→St→Prop) (x0 x1:aj):WE Tryz.prog 307 Tryz.f307 ca 0 (fun _=>[]) A Q [.slice 0 0 2 2 false 7,.int .i64 1,.int .i64 2] (aU (.cells 14 [] (an (aM [x0,x1]) .leaf 0) false false))=
  (((.i64:IntKind)=.i64∧Q (.slice 0 0 (1) (2) false 7) ⟨(aU (.cells 14 [] (an (aM [x0,dG]) .leaf 0) false false)).heap,9⟩)):=by kernel_rfl
theorem Mt [Env] (A:Nat→List SV→Prop) (Q:V→St→Prop) (x0 x1 x2:aj):WE Tryz.prog 307 Tryz.f307 ca 0 (fun _=>[]) A Q [.slice 0 0 3 3 false 7,.int .i64 1,.int .i64 2] (aU (.cells 21 [] (an (aM [x0,x1,x2]) .leaf 0) false false))=
  (((.i64:IntKind)=.i64∧Q (.slice 0 0 (2) (3) false 7) ⟨(aU (.cells 21 [] (an (aM [x0,x2,dG]) .leaf 0) false false)).heap,9⟩)):=by kernel_rfl
theorem Mu [Env] (A:Nat→List SV→Prop) (Q:V→St→Prop) (x0 x1 x2:aj):WE Tryz.prog 307 Tryz.f307 ca 0 (fun _=>[]) A Q [.slice 0 0 3 3 false 7,.int .i64 2,.int .i64 3] (aU (.cells 21 [] (an (aM [x0,x1,x2]) .leaf 0) false false))=
  (((.i64:IntKind)=.i64∧Q (.slice 0 0 (2) (3) false 7) ⟨(aU (.cells 21 [] (an (aM [x0,x1,dG]) .leaf 0) false false)).heap,9⟩)):=by kernel_rfl
theorem Mv [Env] (A:Nat→List SV→Prop) (Q:V→St→Prop) (x0 x1 x2 x3:aj):WE Tryz.prog 307 Tryz.f307 ca 0 (fun _=>[]) A Q [.slice 0 0 4 4 false 7,.int .i64 1,.int .i64 2] (aU (.cells 28 [] (an (aM [x0,x1,x2,x3]) .leaf 0) false false))=
  (((.i64:IntKind)=.i64∧Q (.slice 0 0 (3) (4) false 7) ⟨(aU (.cells 28 [] (an (aM [x0,x2,x3,dG]) .leaf 0) false false)).heap,9⟩)):=by kernel_rfl
theorem Mw [Env] (A:Nat→List SV→Prop) (Q:V→St→Prop) (x0 x1 x2 x3:aj):WE Tryz.prog 307 Tryz.f307 ca 0 (fun _=>[]) A Q [.slice 0 0 4 4 false 7,.int .i64 2,.int .i64 3] (aU (.cells 28 [] (an (aM [x0,x1,x2,x3]) .leaf 0) false false))=
  (((.i64:IntKind)=.i64∧Q (.slice 0 0 (3) (4) false 7) ⟨(aU (.cells 28 [] (an (aM [x0,x1,x3,dG]) .leaf 0) false false)).heap,9⟩)):=by kernel_rfl
theorem Mx [Env] (A:Nat→List SV→Prop) (Q:V→St→Prop) (x0 x1 x2 x3:aj):WE Tryz.prog 307 Tryz.f307 ca 0 (fun _=>[]) A Q [.slice 0 0 4 4 false 7,.int .i64 3,.int .i64 4] (aU (.cells 28 [] (an (aM [x0,x1,x2,x3]) .leaf 0) false false))=
  (((.i64:IntKind)=.i64∧Q (.slice 0 0 (3) (4) false 7) ⟨(aU (.cells 28 [] (an (aM [x0,x1,x2,dG]) .leaf 0) false false)).heap,9⟩)):=by kernel_rfl
theorem My [Env] (A:Nat→List SV→Prop) (Q:V→St→Prop) (x0 x1 x2 x3 x4:aj):WE Tryz.prog 307 Tryz.f307 ca 0 (fun _=>[]) A Q [.slice 0 0 5 5 false 7,.int .i64 1,.int .i64 2] (aU (.cells 35 [] (an (aM [x0,x1,x2,x3,x4]) .leaf 0) false false))=
  (((.i64:IntKind)=.i64∧Q (.slice 0 0 (4) (5) false 7) ⟨(aU (.cells 35 [] (an (aM [x0,x2,x3,x4,dG]) .leaf 0) false false)).heap,9⟩)):=by kernel_rfl
theorem Mz [Env] (A:Nat→List SV→Prop) (Q:V→St→Prop) (x0 x1 x2 x3 x4:aj):WE Tryz.prog 307 Tryz.f307 ca 0 (fun _=>[]) A Q [.slice 0 0 5 5 false 7,.int .i64 2,.int .i64 3] (aU (.cells 35 [] (an (aM [x0,x1,x2,x3,x4]) .leaf 0) false false))=
  (((.i64:IntKind)=.i64∧Q (.slice 0 0 (4) (5) false 7) ⟨(aU (.cells 35 [] (an (aM [x0,x1,x3,x4,dG]) .leaf 0) false false)).heap,9⟩)):=by kernel_rfl
theorem MA [Env] (A:Nat→List SV→Prop) (Q:V→St→Prop) (x0 x1 x2 x3 x4:aj):WE Tryz.prog 307 Tryz.f307 ca 0 (fun _=>[]) A Q [.slice 0 0 5 5 false 7,.int .i64 3,.int .i64 4] (aU (.cells 35 [] (an (aM [x0,x1,x2,x3,x4]) .leaf 0) false false))=
  (((.i64:IntKind)=.i64∧Q (.slice 0 0 (4) (5) false 7) ⟨(aU (.cells 35 [] (an (aM [x0,x1,x2,x4,dG]) .leaf 0) false false)).heap,9⟩)):=by kernel_rfl
theorem MB [Env] (A:Nat→List SV→Prop) (Q:V→St→Prop) (x0 x1 x2 x3 x4:aj):WE Tryz.prog 307 Tryz.f307 ca 0 (fun _=>[]) A Q [.slice 0 0 5 5 false 7,.int .i64 4,.int .i64 5] (aU (.cells 35 [] (an (aM [x0,x1,x2,x3,x4]) .leaf 0) false false))=
  (((.i64:IntKind)=.i64∧Q (.slice 0 0 (4) (5) false 7) ⟨(aU (.cells 35 [] (an (aM [x0,x1,x2,x3,dG]) .leaf 0) false false)).heap,9⟩)):=by kernel_rfl
theorem MC [Env] (A:Nat→List SV→Prop) (Q:V→St→Prop) (x0 x1 x2 x3 x4 x5:aj):WE Tryz.prog 307 Tryz.f307 ca 0 (fun _=>[]) A Q [.slice 0 0 6 6 false 7,.int .i64 1,.int .i64 2] (aU (.cells 42 [] (an (aM [x0,x1,x2,x3,x4,x5]) .leaf 0) false false))=
  (((.i64:IntKind)=.i64∧Q (.slice 0 0 (5) (6) false 7) ⟨(aU (.cells 42 [] (an (aM [x0,x2,x3,x4,x5,dG]) .leaf 0) false false)).heap,9⟩)):=by kernel_rfl
theorem MD [Env] (A:Nat→List SV→Prop) (Q:V→St→Prop) (x0 x1 x2 x3 x4 x5:aj):WE Tryz.prog 307 Tryz.f307 ca 0 (fun _=>[]) A Q [.slice 0 0 6 6 false 7,.int .i64 2,.int .i64 3] (aU (.cells 42 [] (an (aM [x0,x1,x2,x3,x4,x5]) .leaf 0) false false))=
  (((.i64:IntKind)=.i64∧Q (.slice 0 0 (5) (6) false 7) ⟨(aU (.cells 42 [] (an (aM [x0,x1,x3,x4,x5,dG]) .leaf 0) false false)).heap,9⟩)):=by kernel_rfl
theorem ME [Env] (A:Nat→List SV→Prop) (Q:V→St→Prop) (x0 x1 x2 x3 x4 x5:aj):WE Tryz.prog 307 Tryz.f307 ca 0 (fun _=>[]) A Q [.slice 0 0 6 6 false 7,.int .i64 3,.int .i64 4] (aU (.cells 42 [] (an (aM [x0,x1,x2,x3,x4,x5]) .leaf 0) false false))=
  (((.i64:IntKind)=.i64∧Q (.slice 0 0 (5) (6) false 7) ⟨(aU (.cells 42 [] (an (aM [x0,x1,x2,x4,x5,dG]) .leaf 0) false false)).heap,9⟩)):=by kernel_rfl
theorem MF [Env] (A:Nat→List SV→Prop) (Q:V→St→Prop) (x0 x1 x2 x3 x4 x5:aj):WE Tryz.prog 307 Tryz.f307 ca 0 (fun _=>[]) A Q [.slice 0 0 6 6 false 7,.int .i64 4,.int .i64 5] (aU (.cells 42 [] (an (aM [x0,x1,x2,x3,x4,x5]) .leaf 0) false false))=
  (((.i64:IntKind)=.i64∧Q (.slice 0 0 (5) (6) false 7) ⟨(aU (.cells 42 [] (an (aM [x0,x1,x2,x3,x5,dG]) .leaf 0) false false)).heap,9⟩)):=by kernel_rfl
theorem MG [Env] (A:Nat→List SV→Prop) (Q:V→St→Prop) (x0 x1 x2 x3 x4 x5:aj):WE Tryz.prog 307 Tryz.f307 ca 0 (fun _=>[]) A Q [.slice 0 0 6 6 false 7,.int .i64 5,.int .i64 6] (aU (.cells 42 [] (an (aM [x0,x1,x2,x3,x4,x5]) .leaf 0) false false))=
  (((.i64:IntKind)=.i64∧Q (.slice 0 0 (5) (6) false 7) ⟨(aU (.cells 42 [] (an (aM [x0,x1,x2,x3,x4,dG]) .leaf 0) false false)).heap,9⟩)):=by kernel_rfl
theorem MH [Env] (A:Nat→List SV→Prop) (Q:V→St→Prop) (x0 x1 x2 x3 x4 x5 x6:aj):WE Tryz.prog 307 Tryz.f307 ca 0 (fun _=>[]) A Q [.slice 0 0 7 7 false 7,.int .i64 1,.int .i64 2] (aU (.cells 49 [] (an (aM [x0,x1,x2,x3,x4,x5,x6]) .leaf 0) false false))=
  (((.i64:IntKind)=.i64∧Q (.slice 0 0 (6) (7) false 7) ⟨(aU (.cells 49 [] (an (aM [x0,x2,x3,x4,x5,x6,dG]) .leaf 0) false false)).heap,9⟩)):=by kernel_rfl
theorem MI [Env] (A:Nat→List SV→Prop) (Q:V→St→Prop) (x0 x1 x2 x3 x4 x5 x6:aj):WE Tryz.prog 307 Tryz.f307 ca 0 (fun _=>[]) A Q [.slice 0 0 7 7 false 7,.int .i64 2,.int .i64 3] (aU (.cells 49 [] (an (aM [x0,x1,x2,x3,x4,x5,x6]) .leaf 0) false false))=
  (((.i64:IntKind)=.i64∧Q (.slice 0 0 (6) (7) false 7) ⟨(aU (.cells 49 [] (an (aM [x0,x1,x3,x4,x5,x6,dG]) .leaf 0) false false)).heap,9⟩)):=by kernel_rfl
theorem MJ [Env] (A:Nat→List SV→Prop) (Q:V→St→Prop) (x0 x1 x2 x3 x4 x5 x6:aj):WE Tryz.prog 307 Tryz.f307 ca 0 (fun _=>[]) A Q [.slice 0 0 7 7 false 7,.int .i64 3,.int .i64 4] (aU (.cells 49 [] (an (aM [x0,x1,x2,x3,x4,x5,x6]) .leaf 0) false false))=
  (((.i64:IntKind)=.i64∧Q (.slice 0 0 (6) (7) false 7) ⟨(aU (.cells 49 [] (an (aM [x0,x1,x2,x4,x5,x6,dG]) .leaf 0) false false)).heap,9⟩)):=by kernel_rfl
theorem MK [Env] (A:Nat→List SV→Prop) (Q:V→St→Prop) (x0 x1 x2 x3 x4 x5 x6:aj):WE Tryz.prog 307 Tryz.f307 ca 0 (fun _=>[]) A Q [.slice 0 0 7 7 false 7,.int .i64 4,.int .i64 5] (aU (.cells 49 [] (an (aM [x0,x1,x2,x3,x4,x5,x6]) .leaf 0) false false))=
  (((.i64:IntKind)=.i64∧Q (.slice 0 0 (6) (7) false 7) ⟨(aU (.cells 49 [] (an (aM [x0,x1,x2,x3,x5,x6,dG]) .leaf 0) false false)).heap,9⟩)):=by kernel_rfl
theorem ML [Env] (A:Nat→List SV→Prop) (Q:V→St→Prop) (x0 x1 x2 x3 x4 x5 x6:aj):WE Tryz.prog 307 Tryz.f307 ca 0 (fun _=>[]) A Q [.slice 0 0 7 7 false 7,.int .i64 5,.int .i64 6] (aU (.cells 49 [] (an (aM [x0,x1,x2,x3,x4,x5,x6]) .leaf 0) false false))=
  (((.i64:IntKind)=.i64∧Q (.slice 0 0 (6) (7) false 7) ⟨(aU (.cells 49 [] (an (aM [x0,x1,x2,x3,x4,x6,dG]) .leaf 0) false false)).heap,9⟩)):=by kernel_rfl
theorem MM [Env] (A:Nat→List SV→Prop) (Q:V→St→Prop) (x0 x1 x2 x3 x4 x5 x6:aj):WE Tryz.prog 307 Tryz.f307 ca 0 (fun _=>[]) A Q [.slice 0 0 7 7 false 7,.int .i64 6,.int .i64 7] (aU (.cells 49 [] (an (aM [x0,x1,x2,x3,x4,x5,x6]) .leaf 0) false false))=
  (((.i64:IntKind)=.i64∧Q (.slice 0 0 (6) (7) false 7) ⟨(aU (.cells 49 [] (an (aM [x0,x1,x2,x3,x4,x5,dG]) .leaf 0) false false)).heap,9⟩)):=by kernel_rfl
theorem MN [Env] (A:Nat→List SV→Prop) (Q:V→St→Prop) (x0 x1 x2 x3 x4 x5 x6 x7:aj):WE Tryz.prog 307 Tryz.f307 ca 0 (fun _=>[]) A Q [.slice 0 0 8 8 false 7,.int .i64 1,.int .i64 2] (aU (.cells 56 [] (an (aM [x0,x1,x2,x3,x4,x5,x6,x7]) .leaf 0) false false))=
  (((.i64:IntKind)=.i64∧Q (.slice 0 0 (7) (8) false 7) ⟨(aU (.cells 56 [] (an (aM [x0,x2,x3,x4,x5,x6,x7,dG]) .leaf 0) false false)).heap,9⟩)):=by kernel_rfl
theorem MO [Env] (A:Nat→List SV→Prop) (Q:V→St→Prop) (x0 x1 x2 x3 x4 x5 x6 x7:aj):WE Tryz.prog 307 Tryz.f307 ca 0 (fun _=>[]) A Q [.slice 0 0 8 8 false 7,.int .i64 2,.int .i64 3] (aU (.cells 56 [] (an (aM [x0,x1,x2,x3,x4,x5,x6,x7]) .leaf 0) false false))=
  (((.i64:IntKind)=.i64∧Q (.slice 0 0 (7) (8) false 7) ⟨(aU (.cells 56 [] (an (aM [x0,x1,x3,x4,x5,x6,x7,dG]) .leaf 0) false false)).heap,9⟩)):=by kernel_rfl
theorem MP [Env] (A:Nat→List SV→Prop) (Q:V→St→Prop) (x0 x1 x2 x3 x4 x5 x6 x7:aj):WE Tryz.prog 307 Tryz.f307 ca 0 (fun _=>[]) A Q [.slice 0 0 8 8 false 7,.int .i64 3,.int .i64 4] (aU (.cells 56 [] (an (aM [x0,x1,x2,x3,x4,x5,x6,x7]) .leaf 0) false false))=
  (((.i64:IntKind)=.i64∧Q (.slice 0 0 (7) (8) false 7) ⟨(aU (.cells 56 [] (an (aM [x0,x1,x2,x4,x5,x6,x7,dG]) .leaf 0) false false)).heap,9⟩)):=by kernel_rfl
theorem MQ [Env] (A:Nat→List SV→Prop) (Q:V→St→Prop) (x0 x1 x2 x3 x4 x5 x6 x7:aj):WE Tryz.prog 307 Tryz.f307 ca 0 (fun _=>[]) A Q [.slice 0 0 8 8 false 7,.int .i64 4,.int .i64 5] (aU (.cells 56 [] (an (aM [x0,x1,x2,x3,x4,x5,x6,x7]) .leaf 0) false false))=
  (((.i64:IntKind)=.i64∧Q (.slice 0 0 (7) (8) false 7) ⟨(aU (.cells 56 [] (an (aM [x0,x1,x2,x3,x5,x6,x7,dG]) .leaf 0) false false)).heap,9⟩)):=by kernel_rfl
theorem MR [Env] (A:Nat→List SV→Prop) (Q:V→St→Prop) (x0 x1 x2 x3 x4 x5 x6 x7:aj):WE Tryz.prog 307 Tryz.f307 ca 0 (fun _=>[]) A Q [.slice 0 0 8 8 false 7,.int .i64 5,.int .i64 6] (aU (.cells 56 [] (an (aM [x0,x1,x2,x3,x4,x5,x6,x7]) .leaf 0) false false))=
  (((.i64:IntKind)=.i64∧Q (.slice 0 0 (7) (8) false 7) ⟨(aU (.cells 56 [] (an (aM [x0,x1,x2,x3,x4,x6,x7,dG]) .leaf 0) false false)).heap,9⟩)):=by kernel_rfl
theorem MS [Env] (A:Nat→List SV→Prop) (Q:V→St→Prop) (x0 x1 x2 x3 x4 x5 x6 x7:aj):WE Tryz.prog 307 Tryz.f307 ca 0 (fun _=>[]) A Q [.slice 0 0 8 8 false 7,.int .i64 6,.int .i64 7] (aU (.cells 56 [] (an (aM [x0,x1,x2,x3,x4,x5,x6,x7]) .leaf 0) false false))=
  (((.i64:IntKind)=.i64∧Q (.slice 0 0 (7) (8) false 7) ⟨(aU (.cells 56 [] (an (aM [x0,x1,x2,x3,x4,x5,x7,dG]) .leaf 0) false false)).heap,9⟩)):=by kernel_rfl
theorem MT [Env] (A:Nat→List SV→Prop) (Q:V→St→Prop) (x0 x1 x2 x3 x4 x5 x6 x7:aj):WE Tryz.prog 307 Tryz.f307 ca 0 (fun _=>[]) A Q [.slice 0 0 8 8 false 7,.int .i64 7,.int .i64 8] (aU (.cells 56 [] (an (aM [x0,x1,x2,x3,x4,x5,x6,x7]) .leaf 0) false false))=
  (((.i64:IntKind)=.i64∧Q (.slice 0 0 (7) (8) false 7) ⟨(aU (.cells 56 [] (an (aM [x0,x1,x2,x3,x4,x5,x6,dG]) .leaf 0) false false)).heap,9⟩)):=by kernel_rfl
def MU [Env] (vs:List V) (σ:St) (k:ah):Prop:=
 match vs with
 | [.own b n 7,.int .i64 x,.int .i64 y]=>∃(l:List aj) (i:Nat),(n=l.length∧x=i∧y=(i:Int)+1)∧σ.heap.get b=some (.row l.length (fun j=>aj.enc (l.getD j default)) 7 false)∧(0<i∧i<l.length∧l.length≤8)∧∀m f,bC m f (bp (fun j=>decide (j≠i)) (fun j=>l.getD j default) l.length)→k (.own σ.next m 7) ((σ.kill b).new σ.next (.row m f 7 false))
 | _=>False
def HW [Env]:=kS 307 MU ca
end Go.Proofs.YtbajncpfmemdgaaGreatDoor
end
