/- Proved: parts of the way: BC6, Give, BEq18. -/
import Derived.Test.YtbajncpfmemdgaaGreatDoorEvQ17
import Derived.Test.YtbajncpfmemdgaaGreatDoorEvQ14
set_option linter.unusedVariables false
set_option linter.unusedSimpArgs false
section
namespace Go.Proofs.YtbajncpfmemdgaaGreatDoor
open Go Go.Ev Go.IntWalk
theorem F83:bU Tryz.prog 83 Tryz.f83:=.of (by kernel_rfl) (by kernel_rfl)
theorem F82:bU Tryz.prog 82 Tryz.f82:=.of (by kernel_rfl) (by kernel_rfl)
theorem F40:bU Tryz.prog 40 Tryz.f40:=.of (by kernel_rfl) (by kernel_rfl)
theorem F38:bU Tryz.prog 38 Tryz.f38:=.of (by kernel_rfl) (by kernel_rfl)
theorem F212:bU Tryz.prog 212 Tryz.f212:=.of (by kernel_rfl) (by kernel_rfl)
theorem F164:bU Tryz.prog 164 Tryz.f164:=.of (by kernel_rfl) (by kernel_rfl)
theorem F129:bU Tryz.prog 129 Tryz.f129:=.of (by kernel_rfl) (by kernel_rfl)
theorem F76:bU Tryz.prog 76 Tryz.f76:=.of (by kernel_rfl) (by kernel_rfl)
theorem F32:bU Tryz.prog 32 Tryz.f32:=.of (by kernel_rfl) (by kernel_rfl)
theorem F27:bU Tryz.prog 27 Tryz.f27:=.of (by kernel_rfl) (by kernel_rfl)
theorem cI {α:Type} [Inhabited α] {l:List α} {i:Nat} (h:i<l.length):l.getD i default=l[i]:=by rw[List.getD_eq_getElem?_getD,List.getElem?_eq_getElem h];rfl
theorem M6 {α:Type} [Inhabited α] {l m:List α} (hl:l.length=m.length) (h:∀i,i<l.length→l.getD i default=m.getD i default):l=m:=
 List.ext_getElem hl fun i h1 h2=>by have:=h i h1;rwa [cI h1,cI h2] at this
theorem nz (q:Nat→List UInt8):∀n,vB q n=true↔∀i,i<n→0<i→(Op.bytesLess (q i) (q (i-1))||q i==q (i-1))=false
 | 0=>⟨fun _ i hi=>absurd hi (Nat.not_lt_zero i),fun _=>rfl⟩
 | n+1=>by
  show(vB q n&&(decide (n=0)|| !(Op.bytesLess (q n) (q (n-1))||q n==q (n-1))))=true↔_
  rw[Bool.and_eq_true,nz q n,Bool.or_eq_true,decide_eq_true_iff,Bool.not_eq_true']
  constructor
  ·rintro⟨h1,h2⟩ i hi h0
   by_cases e:i=n
   ·subst e;exact h2.resolve_left (by omega)
   ·exact h1 i (by omega) h0
  ·intro h
   refine⟨fun i hi h0=>h i (by omega) h0,?_⟩
   by_cases e:n=0
   ·exact .inl e
   ·exact .inr (h n (by omega) (by omega))
def nameAt (l:List aa) (i:Nat):List UInt8:=(l.getD i default).f0
theorem yI {l:List aa} (h:l.length>16):cn l=2:=by unfold cn;rw[if_pos h]
theorem Iw {l:List aa} (h:¬l.length>16) {i:Nat} (hi:i<l.length) (h1:bu (l.getD i default)≠0) (h2:∀j,j<i→bu (l.getD j default)=0):cn l=bu (l.getD i default):=by
 have:=jK (fun i=>bu (l.getD i default)) l.length i hi h1 h2
 unfold cn
 rw[if_neg h,this,if_pos h1]
theorem nd {l:List aa} (h:¬l.length>16) (h2:∀j,j<l.length→bu (l.getD j default)=0):cn l=if vB (nameAt l) l.length=true then 0 else 12:=by
 have:=(ca (fun i=>bu (l.getD i default)) l.length).2 h2
 unfold cn
 rw[if_neg h,if_neg (by rw[this];exact fun h=>h rfl)];rfl
theorem KZ {l:List aa} (h:¬l.length>16) (h2:∀j,j<l.length→bu (l.getD j default)=0) {i:Nat} (hi:i<l.length) (h0:0<i) (hb:(Op.bytesLess (nameAt l i) (nameAt l (i-1))||nameAt l i==nameAt l (i-1))=true):cn l=12:=by
 rw[nd h h2,if_neg]
 intro hr
 have:=(nz _ _).1 hr i hi h0
 rw[hb] at this;cases this
section
variable [Env] [aC] {vs:List V} {σ:St} {k:ah}
omit [aC] in
theorem bK (l:List aa):Go.Ev.Clean (ae aa.enc 3 l):=dp (enc:=aa.enc) fun x _=>aa.clean x
omit [aC] in
theorem fg (l:List aj):Go.Ev.Clean (ae aj.enc 7 l):=dp (enc:=aj.enc) fun x _=>aj.clean x
omit [aC] in
theorem M7 {f:FuncId} {s:List UInt8}:Go.Ev.Clean (.func (.func f) [] [.aM [.str s] 0]):=Go.Ev.Clean.fn cz (ax (Go.Ev.Clean.aM (ax (Go.Ev.Clean.str _) cz)) cz)
theorem TV (h:YD vs σ k):ag Tryz.prog 83 vs k σ:=by
 obtain⟨e,s,rfl,h⟩:=h
 refine ag.eG (aA (aa.aG e) (aA (Go.Ev.Clean.aM (ax (Go.Ev.Clean.str _) cz)) bm)) (.bool _) (F83.flat (live:=KW) (call:=Iq) (n₀:=0) (σ:=Go.Ev.start) (fun h=>FY h) rfl (by kernel_rfl) ?_) h
 rw[e83]
 exact av (fun h=>by rw[decide_eq_true h]) fun h=>by rw[decide_eq_false h]
theorem F0:∀ {f:FuncId} {vs:List V} {σ:St} {k:ah},C3 f vs σ k→ag Tryz.prog f vs k σ:=fun h=>aP TV FY h
def I82 (l:List aa) (s:List UInt8):Nat→List SV→Prop
 | 0,ss=>∃i:Nat,i≤l.length∧(∀j,j<i→nameAt l j≠s)∧ss=[.val (ae aa.enc 3 l),.val (.func (.func 83) [] [.aM [.str s] 0]),.val (.int .i64 ((l.length:Nat):Int)),.val (.int .i64 ((i:Nat):Int))]
 | _,_=>False
theorem TW (h:YG vs σ k):ag Tryz.prog 82 vs k σ:=by
 obtain⟨l,s,hf,hn,h⟩:=h
 refine ag.eG hf (.int _ _) (F82.cx (live:=C4) (call:=C3) (n₀:=0) (σ:=Go.Ev.start) (fun h=>F0 h) rfl 1 (by kernel_rfl) Nat.lt_wfRel.wf (fun _ ss=>l.length-cu ss) (I82 l s) ?_ ?_ ?_) h
 ·intro k ss hI
  cases k with
  | zero=>obtain⟨i,_,_,rfl⟩:=hI;exact aw (bK l) (aw M7 (aE (aE bM)))
  | succ k=>exact hI.elim
 ·rw[Ps]
  exact⟨0,by omega,fun j hj=>absurd hj (Nat.not_lt_zero j),rfl⟩
 ·intro k hk ss hI
  obtain rfl:k=0:=by omega
  obtain⟨i,hi,hj,rfl⟩:=hI
  rw[r82]
  refine⟨rfl,av (fun h1=>⟨⟨by omega,by omega⟩,⟨_,_,rfl,av (fun h2=>?_) fun h2=>?_⟩⟩) fun h1=>?_⟩
  ·rw[dU] at h2
   show V.int .i64 (i:Int)=.int .i64 (cd s (nameAt l) l.length)
   rw[lW s _ l.length i (by omega) h2 hj]
  ·rw[dU] at h2
   rw[i64_in ((i:Int)+1) (by omega)]
   refine⟨⟨i+1,by omega,fun j iY=>?_,rfl⟩,?_⟩
   ·by_cases e:j=i
    ·subst e;exact h2
    ·exact hj j (by omega)
   ·show l.length-((i:Int)+1).toNat<l.length-(i:Int).toNat
    omega
  ·obtain rfl:i=l.length:=by omega
   show V.int .i64 (-1:Int)=.int .i64 (cd s (nameAt l) l.length)
   rw[iT s _ l.length hj]
theorem F1:∀ {f:FuncId} {vs:List V} {σ:St} {k:ah},It f vs σ k→ag Tryz.prog f vs k σ:=fun h=>aP TW F0 h
theorem TX (h:YI vs σ k):ag Tryz.prog 40 vs k σ:=by
 obtain⟨l,s,rfl,hn,h⟩:=h
 refine ag.eG (aA (bK l) (aA (Go.Ev.Clean.str _) bm)) (.int _ _) (F40.flat (live:=KX) (call:=It) (n₀:=0) (σ:=Go.Ev.start) (fun h=>F1 h) rfl (by kernel_rfl) ?_) h
 rw[e40]
 exact⟨l,s,.cons (.clean (bK l)) (.cons (.func .nil (.cons (.Cw (n:=1) (cs:=[.str s]) (by rfl) (.cons (.str _) .nil)) .nil)) .nil),hn,rfl⟩
theorem F2:∀ {f:FuncId} {vs:List V} {σ:St} {k:ah},zM f vs σ k→ag Tryz.prog f vs k σ:=fun h=>aP TX F1 h
def W3 (l:List aa) (i:Nat):Prop:=i≤l.length∧∀j,j<i→bu (l.getD j default)=0
def W4 (l:List aa) (i:Nat):Prop:=i≤l.length∧(∀j,j<l.length→bu (l.getD j default)=0)∧∀j,j<i→0<j→(Op.bytesLess (nameAt l j) (nameAt l (j-1))||nameAt l j==nameAt l (j-1))=false
def Zf (l:List aa):Nat→List SV→Prop
 | 0,ss=>∃i:Nat,(¬l.length>16∧W3 l i)∧ss=[.val (ae aa.enc 3 l),.val (ae aa.enc 3 l),.val (.int .i64 ((l.length:Nat):Int)),.val (.int .i64 ((i:Nat):Int))]
 | 1,ss=>∃i:Nat,(¬l.length>16∧W4 l i)∧ss=[.val (ae aa.enc 3 l),.val (.int .i64 ((l.length:Nat):Int)),.val (.int .i64 ((i:Nat):Int))]
 | _,_=>False
def TY (l:List aa) (j:Nat) (ss:List SV):Nat:=(1-j)*100+(l.length-cu ss)
theorem TZ (h:YJ vs σ k):ag Tryz.prog 38 vs k σ:=by
 obtain⟨l,rfl,dD,h⟩:=h
 refine ag.eG (aA (bK l) bm) (.int _ _) (F38.cx (live:=yH) (call:=zM) (n₀:=0) (σ:=Go.Ev.start) (fun h=>F2 h) rfl 2 (by kernel_rfl) Nat.lt_wfRel.wf (TY l) (Zf l) ?_ ?_ ?_) h
 ·intro k ss hI
  match k,hI with
  | 0,hI=>obtain⟨i,_,rfl⟩:=hI;exact aw (bK l) (aw (bK l) (aE (aE bM)))
  | 1,hI=>obtain⟨i,_,rfl⟩:=hI;exact aw (bK l) (aE (aE bM))
  | n+2,hI=>exact hI.elim
 ·rw[e38]
  refine⟨rfl,av (fun h1=>by rw[yI (by omega)]) fun h1=>⟨0,⟨by omega,Nat.zero_le _,fun j hj=>absurd hj (Nat.not_lt_zero j)⟩,rfl⟩⟩
 ·intro k hk ss hI
  match k,hI with
  | 0,hI=>
   obtain⟨i,⟨yJ,hi,hj⟩,rfl⟩:=hI
   rw[aaY]
   refine⟨rfl,av (fun h1=>⟨⟨by omega,by omega⟩,⟨_,rfl,dD _ (ba (by omega)),rfl,av (fun h2=>?_) fun h2=>?_⟩⟩) fun h1=>?_⟩
   ·rw[dU] at h2⊢
    rw[Iw yJ (by omega) h2 hj]
   ·rw[dU] at h2
    rw[i64_in ((i:Int)+1) (by omega)]
    refine⟨⟨i+1,⟨yJ,by omega,fun j iY=>?_⟩,rfl⟩,?_⟩
    ·by_cases e:j=i
     ·subst e;exact Classical.not_not.mp h2
     ·exact hj j (by omega)
    ·show 1*100+(l.length-((i:Int)+1).toNat)<1*100+(l.length-(i:Int).toNat)
     omega
   ·obtain rfl:i=l.length:=by omega
    refine⟨⟨0,⟨yJ,Nat.zero_le _,hj,fun j hj=>absurd hj (Nat.not_lt_zero j)⟩,rfl⟩,?_⟩
    show 0*100+(l.length-(0:Int).toNat)<1*100+(l.length-(l.length:Int).toNat)
    have:(0:Int).toNat=0:=rfl
    omega
  | 1,hI=>
   obtain⟨i,⟨yJ,hi,hz,hj⟩,rfl⟩:=hI
   rw[aaZ]
   have go:(0<i→(Op.bytesLess (nameAt l i) (nameAt l (i-1))||nameAt l i==nameAt l (i-1))=false)→i<l.length→Zf l 1 [.val (ae aa.enc 3 l),.val (.int .i64 ((l.length:Nat):Int)),.val (.int .i64 (IntKind.i64.wrap ((i:Int)+1)))]∧TY l 1 [.val (ae aa.enc 3 l),.val (.int .i64 ((l.length:Nat):Int)),.val (.int .i64 (IntKind.i64.wrap ((i:Int)+1)))]<TY l 1 [.val (ae aa.enc 3 l),.val (.int .i64 ((l.length:Nat):Int)),.val (.int .i64 ((i:Nat):Int))]:=fun h2 h3=>by
    rw[i64_in ((i:Int)+1) (by omega)]
    refine⟨⟨i+1,⟨yJ,by omega,hz,fun j iY h0=>?_⟩,rfl⟩,?_⟩
    ·by_cases e:j=i
     ·subst e;exact h2 h0
     ·exact hj j (by omega) h0
    ·show 0*100+(l.length-((i:Int)+1).toNat)<0*100+(l.length-(i:Int).toNat)
     omega
   refine⟨rfl,av (fun h1=>⟨rfl,av (fun h2=>?_) fun h2=>go (fun h=>absurd h (by omega)) (by omega)⟩) fun h1=>?_⟩
   ·have e1:IntKind.i64.wrap ((i:Int)-1)=((i-1:Nat):Int):=by rw[i64_in ((i:Int)-1) (by omega)];omega
    rw[e1]
    refine⟨⟨by omega,by omega⟩,⟨by omega,by omega⟩,af.mk (fun h3=>?_) fun h3=>go (fun _=>h3) (by omega)⟩
    rw[KZ yJ hz (i:=i) (by omega) (by omega) h3]
   ·obtain rfl:i=l.length:=by omega
    rw[nd yJ hz,if_pos ((nz _ _).2 hj)]
  | n+2,hI=>exact hI.elim
theorem F3:∀ {f:FuncId} {vs:List V} {σ:St} {k:ah},Iu f vs σ k→ag Tryz.prog f vs k σ:=fun h=>aP TZ F2 h
def fQ (p:Prop) (v:V):Prop:=∃b:Bool,(b=true↔p)∧v=.bool b
omit [aC] in
theorem fQ.gb {p:Prop}:∀v,fQ p v→dG v:=fun v ⟨b,_,e⟩=>by subst e;exact .bool b
omit [Env] [aC] in
theorem Bs {p:Prop} (h:p):fQ p (.bool true):=⟨true,⟨fun _=>h,fun _=>rfl⟩,rfl⟩
omit [Env] [aC] in
theorem iU {p:Prop} (h:¬p):fQ p (.bool false):=⟨false,⟨fun c=>(by cases c),fun c=>(h c).elim⟩,rfl⟩
omit [Env] [aC] in
theorem ay.vC {x y:ay} (h0:x.f0=y.f0) (h1:x.f1=y.f1) (h2:x.f2=y.f2) (h3:x.f3=y.f3):x=y:=by
 cases x;cases y;simp only at h0 h1 h2 h3;subst h0;subst h1;subst h2;subst h3;rfl
omit [Env] [aC] in
theorem aa.vC {x y:aa} (h0:x.f0=y.f0) (h1:x.f1=y.f1) (h2:x.f2=y.f2):x=y:=by
 cases x;cases y;simp only at h0 h1 h2;subst h0;subst h1;subst h2;rfl
theorem QE (h:TF vs σ k):ag Tryz.prog 212 vs k σ:=by
 obtain⟨x,y,rfl,h⟩:=h
 refine ag.aT (A:=fQ (x=y)) (aA (ay.aG x) (aA (ay.aG y) bm)) fQ.gb (F212.flat (live:=FZ) (call:=Iu) (n₀:=0) (σ:=Go.Ev.start) (fun h=>F3 h) rfl (by kernel_rfl) ?_) fun v ⟨b,hb,e⟩=>by subst e;exact h b hb
 rw[aa0]
 exact⟨rfl,av (fun h1=>⟨rfl,av (fun h2=>⟨rfl,av (fun h3=>av (fun h4=>Bs (ay.vC h1 h2 h3 h4)) fun h4=>iU fun e=>h4 (by rw[e])) fun h3=>iU fun e=>h3 (by rw[e])⟩) fun h2=>iU fun e=>h2 (by rw[e])⟩) fun h1=>iU fun e=>h1 (by rw[e])⟩
theorem F4:∀ {f:FuncId} {vs:List V} {σ:St} {k:ah},xg f vs σ k→ag Tryz.prog f vs k σ:=fun h=>aP QE F3 h
set_option maxRecDepth 100000 in
theorem QF (h:TM vs σ k):ag Tryz.prog 164 vs k σ:=by
 obtain⟨x,y,rfl,h⟩:=h
 refine ag.aT (A:=fQ (x=y)) (aA (aj.aG x) (aA (aj.aG y) bm)) fQ.gb (F164.flat (live:=re) (call:=xg) (n₀:=0) (σ:=Go.Ev.start) (fun h=>F4 h) rfl (by kernel_rfl) ?_) fun v ⟨b,hb,e⟩=>by subst e;exact h b hb
 obtain⟨a,c,f,u⟩:=x
 obtain⟨b,d,g,v⟩:=y
 have na:a≠b→fQ ((⟨a,c,f,u⟩:aj)=⟨b,d,g,v⟩) (.bool false):=fun h=>iU fun e=>h (by cases e;rfl)
 have nc:c≠d→fQ ((⟨a,c,f,u⟩:aj)=⟨b,d,g,v⟩) (.bool false):=fun h=>iU fun e=>h (by cases e;rfl)
 have nf:f≠g→fQ ((⟨a,c,f,u⟩:aj)=⟨b,d,g,v⟩) (.bool false):=fun h=>iU fun e=>h (by cases e;rfl)
 cases f<;>cases g
 ·exact(QD _ _ a b c d u v).mpr (av (fun h1=>⟨rfl,av (fun h2=>⟨u,v,rfl,fun b hb=>⟨b,hb.trans ⟨fun e=>by rw[h1,h2,e],fun e=>by cases e;rfl⟩,rfl⟩⟩) nc⟩) na)
 ·exact(QC _ _ a b c d u v).mpr (av (fun _=>⟨rfl,av (fun _=>nf (by decide)) nc⟩) na)
 ·exact(QB _ _ a b c d u v).mpr (av (fun _=>⟨rfl,av (fun _=>nf (by decide)) nc⟩) na)
 ·exact(QA _ _ a b c d u v).mpr (av (fun h1=>⟨rfl,av (fun h2=>⟨u,v,rfl,fun b hb=>⟨b,hb.trans ⟨fun e=>by rw[h1,h2,e],fun e=>by cases e;rfl⟩,rfl⟩⟩) nc⟩) na)
theorem F5:∀ {f:FuncId} {vs:List V} {σ:St} {k:ah},C5 f vs σ k→ag Tryz.prog f vs k σ:=fun h=>aP QF F4 h
def Zg {α:Type} [Inhabited α] (enc:α→V) (esz:Nat) (l m:List α):Nat→List SV→Prop
 | 0,ss=>∃i:Nat,(l.length=m.length∧∀j,j<i→l.getD j default=m.getD j default)∧i≤l.length∧ss=[.val (ae enc esz l),.val (ae enc esz m),.val (.int .i64 ((i:Nat):Int))]
 | _,_=>False
omit [aC] [Env] in
theorem xh {α:Type} [Inhabited α] {l m:List α} (hl:l.length=m.length) (h:∀i,i<l.length→l.getD i default=m.getD i default):l=m:=M6 hl h
theorem QG (h:TQ vs σ k):ag Tryz.prog 129 vs k σ:=by
 obtain⟨l,m,rfl,hs,h⟩:=h
 refine ag.aT (A:=fQ (l=m)) (aA (fg l) (aA (fg m) bm)) fQ.gb (F129.cx (live:=zN) (call:=C5) (n₀:=0) (σ:=Go.Ev.start) (fun h=>F5 h) rfl 1 (by kernel_rfl) Nat.lt_wfRel.wf (fun _ ss=>l.length-cu ss) (Zg aj.enc 7 l m) ?_ ?_ ?_) fun v ⟨b,hb,e⟩=>by subst e;exact h b hb
 ·intro k ss hI
  cases k with
  | zero=>obtain⟨i,_,_,rfl⟩:=hI;exact aw (fg l) (aw (fg m) (aE bM))
  | succ k=>exact hI.elim
 ·rw[aa1]
  refine⟨rfl,av (fun h1=>iU fun e=>h1 (by rw[e])) fun h1=>⟨0,⟨by omega,fun j hj=>absurd hj (Nat.not_lt_zero j)⟩,by omega,rfl⟩⟩
 ·intro k hk ss hI
  obtain rfl:k=0:=by omega
  obtain⟨i,⟨hl,cS⟩,hi,rfl⟩:=hI
  rw[aa2]
  refine⟨rfl,av (fun h1=>⟨⟨by omega,by omega⟩,⟨by omega,by omega⟩,_,_,rfl,fun b hb=>af.mk (fun h2=>iU fun e=>?_) fun h2=>?_⟩) fun h1=>Bs (xh hl fun j hj=>cS j (by omega))⟩
  ·have:=hb.2 (by rw[e]);rw[this] at h2;cases h2
  ·rw[i64_in ((i:Int)+1) (by omega)]
   refine⟨⟨i+1,⟨hl,fun j hj=>?_⟩,by omega,rfl⟩,?_⟩
   ·by_cases ej:j=i
    ·subst ej;exact hb.1 (by simpa using h2)
    ·exact cS j (by omega)
   show l.length-((i:Int)+1).toNat<l.length-(i:Int).toNat
   omega
theorem F6:∀ {f:FuncId} {vs:List V} {σ:St} {k:ah},Iv f vs σ k→ag Tryz.prog f vs k σ:=fun h=>aP QG F5 h
theorem T0 (h:Zb vs σ k):ag Tryz.prog 76 vs k σ:=by
 obtain⟨x,y,rfl,hs,h⟩:=h
 refine ag.aT (A:=fQ (x=y)) (aA (aa.aG x) (aA (aa.aG y) bm)) fQ.gb (F76.flat (live:=KY) (call:=Iv) (n₀:=0) (σ:=Go.Ev.start) (fun h=>F6 h) rfl (by kernel_rfl) ?_) fun v ⟨b,hb,e⟩=>by subst e;exact h b hb
 rw[e76]
 refine av (fun h1=>⟨rfl,av (fun h2=>⟨_,_,rfl,hs,fun b hb=>⟨b,hb.trans ⟨fun h3=>aa.vC h1 h2 h3,fun e=>by rw[e]⟩,rfl⟩⟩) fun h2=>iU fun e=>h2 (by rw[e])⟩) fun h1=>iU fun e=>h1 (by rw[e])
theorem F8:∀ {f:FuncId} {vs:List V} {σ:St} {k:ah},C6 f vs σ k→ag Tryz.prog f vs k σ:=fun h=>aP T0 F6 h
theorem K0 (h:Zc vs σ k):ag Tryz.prog 32 vs k σ:=by
 obtain⟨l,m,rfl,hs,h⟩:=h
 refine ag.aT (A:=fQ (l=m)) (aA (bK l) (aA (bK m) bm)) fQ.gb (F32.cx (live:=C7) (call:=C6) (n₀:=0) (σ:=Go.Ev.start) (fun h=>F8 h) rfl 1 (by kernel_rfl) Nat.lt_wfRel.wf (fun _ ss=>l.length-cu ss) (Zg aa.enc 3 l m) ?_ ?_ ?_) fun v ⟨b,hb,e⟩=>by subst e;exact h b hb
 ·intro k ss hI
  cases k with
  | zero=>obtain⟨i,_,_,rfl⟩:=hI;exact aw (bK l) (aw (bK m) (aE bM))
  | succ k=>exact hI.elim
 ·rw[e32]
  refine⟨rfl,av (fun h1=>iU fun e=>h1 (by rw[e])) fun h1=>⟨0,⟨by omega,fun j hj=>absurd hj (Nat.not_lt_zero j)⟩,by omega,rfl⟩⟩
 ·intro k hk ss hI
  obtain rfl:k=0:=by omega
  obtain⟨i,⟨hl,cS⟩,hi,rfl⟩:=hI
  rw[r32]
  refine⟨rfl,av (fun h1=>⟨⟨by omega,by omega⟩,⟨by omega,by omega⟩,_,_,rfl,hs.2 _ (ba (by omega)),fun b hb=>af.mk (fun h2=>iU fun e=>?_) fun h2=>?_⟩) fun h1=>Bs (xh hl fun j hj=>cS j (by omega))⟩
  ·have:=hb.2 (by rw[e]);rw[this] at h2;cases h2
  ·rw[i64_in ((i:Int)+1) (by omega)]
   refine⟨⟨i+1,⟨hl,fun j hj=>?_⟩,by omega,rfl⟩,?_⟩
   ·by_cases ej:j=i
    ·subst ej;exact hb.1 (by simpa using h2)
    ·exact cS j (by omega)
   show l.length-((i:Int)+1).toNat<l.length-(i:Int).toNat
   omega
theorem rh:∀ {f:FuncId} {vs:List V} {σ:St} {k:ah},ud f vs σ k→ag Tryz.prog f vs k σ:=fun h=>aP K0 F8 h
end
end Go.Proofs.YtbajncpfmemdgaaGreatDoor
end
section
namespace Go.Ev
open Go
section
variable [Env] {P:Program} {σ:St}
inductive mG (τ:St) (b n:Nat) (g:Nat→V) (esz:Nat):V→Prop
 | own {f:Nat→V} {p:Bool} (hb:τ.heap.get b=some (.row n f esz p)) (h:∀i,i<n→bn (τ.kill b) (f i).cells (g i).cells):mG τ b n g esz (.own b n esz)
 | slice {m:Nat} {ex:Bool} {z:List V} {t:Trie V} {p:Bool} (hb:τ.heap.get b=some (.cells (n*esz) z t p false)) (hm:(ex=true∧n≤m)∨(ex=false∧m=n∧n≠0)) (hu:∀i,i<n→(g i).cells.length=esz)
   (h:∀i,i<n→∃cs,cellsOf (n*esz) z t esz (i*esz)=some cs∧bn (τ.kill b) cs (g i).cells):mG τ b n g esz (.slice b 0 n m ex esz)
theorem C9 {τ:St}:∀ {vs us:List V},bn τ vs us→vs.length=us.length
 | _,_,.nil=>rfl
 | _,_,.cons _ hl=>congrArg (·+1) (C9 hl)
theorem mG.cP {τ:St} {b n esz:Nat} {g:Nat→V} {v:V} (h:mG τ b n g esz v) {ρ ρ':Ren} {w:World} {l:Loc} (hr:R ρ τ w) (hl:ρ b=some l)
  (hz:∀ {vs us:List V} {xs:List Value},bn (τ.kill b) vs us→au ρ vs xs→au ρ' us xs):cC ρ' w l (.row n g esz false):=by
 cases h with
 | own hb h=>
  obtain⟨l',cF,dD⟩:=hr.cP b _ hb
  rw[hl] at cF;cases cF
  cases dD with
  | row hs hn hu hv hf hp=>
   rename_i f p
   refine .row hs hn (fun i hi=>by rw[←C9 (h i hi)];exact hu i hi) (fun i hi k v hk=>?_) hf (fun h=>by cases h)
   have key:∃xs:List Value,au ρ (f i).cells xs∧∀(k:Nat) x,xs[k]? =some x→w.cell? ⟨l.c,l.o+(i*esz+k),none⟩=some x:=by
    obtain⟨xs,h1,h2⟩:=oI (ρ:=ρ) (cs:=(f i).cells) (p:=fun k x=>w.cell? ⟨l.c,l.o+(i*esz+k),none⟩=some x) fun k v hk=>hv i hi k v hk
    exact⟨xs,h1,h2⟩
   obtain⟨xs,h1,h2⟩:=key
   obtain⟨x,hx,hr⟩:=au.get (hz (h i hi) h1) _ hk
   exact⟨x,h2 k x hx,hr⟩
 | slice hb hm hu h=>
  obtain⟨l',cF,dD⟩:=hr.cP b _ hb
  rw[hl] at cF;cases cF
  cases dD with
  | cells hs hn hv hf hp=>
   refine .row hs hn hu (fun i hi k v hk=>?_) (hf rfl) (fun h=>by cases h)
   obtain⟨cs,hc,ue⟩:=h i hi
   obtain⟨_,g2⟩:=gm _ _ hc
   obtain⟨xs,h1,h2⟩:=oI (ρ:=ρ) (cs:=cs) (p:=fun k x=>w.cell? ⟨l.c,l.o+(i*esz+k),none⟩=some x) fun k v hk=>hv _ v (g2 k v hk)
   obtain⟨x,hx,hr⟩:=au.get (hz ue h1) _ hk
   exact⟨x,h2 k x hx,hr⟩
theorem mG.val {τ:St} {b n esz:Nat} {g:Nat→V} {v:V} (h:mG τ b n g esz v) {ρ ρ':Ren} {x:Value} {i:Nat} (hx:aq ρ v x) (hi:∀l,ρ b=some l→ρ' i=some l):aq ρ' (.own i n esz) x:=by
 cases h with
 | own hb h=>
  cases hx with
  | own hl hc hN=>exact .own (hi _ hl) hc hN
 | slice hb hm hu h=>
  cases hx with
  | slice hl hex dy hN hn=>
   rcases hm with ⟨rfl,hm⟩ | ⟨rfl,rfl,hm⟩
   ·obtain⟨rfl,rfl⟩:=hex rfl
    exact .own (hi _ hl) hm (by simpa using hN)
   ·obtain⟨h1,h2⟩:=dy rfl
    rcases h2 with h2 | h2
    ·subst h2;exact .own (hi _ hl) h1 (by simpa using hN)
    ·exact absurd h2.1 hm
theorem mG.at {τ:St} {b n esz:Nat} {g:Nat→V} {v:V} (h:mG τ b n g esz v):∃q,τ.heap.get b=some q:=by
 cases h with
 | own hb h=>exact⟨_,hb⟩
 | slice hb hm hu h=>exact⟨_,hb⟩
mutual
theorem dQ.fh {σ:St}:∀ {v u:V},dQ start v u→dQ σ v u
 | _,_,.clean h=>.clean h
 | _,_,.lT h=>.lT h.fh
 | _,_,.arr h hu he hn=>.arr (fun i hi=>(h i hi).fh) hu he hn
 | _,_,.own hb _ _=>by rw[eA] at hb;cases hb
 | _,_,.int k n=>.int k n
 | _,_,.bool b=>.bool b
 | _,_,.str s=>.str s
 | _,_,.dM k b=>.dM k b
 | _,_,.any i=>.any i
 | _,_,.dr=>.dr
 | _,_,.dC=>.dC
 | _,_,.cH=>.cH
 | _,_,.aV=>.aV
 | _,_,.ai=>.ai
 | _,_,.empty e x=>.empty e x
 | _,_,.bk h hu hn he=>.bk h.fh hu hn he
 | _,_,.aM h=>.aM h.fh
 | _,_,.Cw hc _=>by simp [St.cells,eA] at hc
 | _,_,.func hx hy=>.func hx.fh hy.fh
 | _,_,.slice hc _ _ _=>by simp [St.cells,eA] at hc
 | _,_,.agg h=>.agg h.fh
 | _,_,.tuple h=>.tuple h.fh
 | _,_,.iface h=>.iface h.fh
theorem bn.fh {σ:St}:∀ {vs us:List V},bn start vs us→bn σ vs us
 | _,_,.nil=>.nil
 | _,_,.cons h hl=>.cons h.fh hl.fh
end
def bl (σ:St) (k:ah) (v:V) (τ:St):Prop:=
 (∃u,dQ τ v u∧k u σ)∨
 (∃b n g esz,mG τ b n g esz v∧k (.own σ.next n esz) (σ.new σ.next (.row n g esz false)))∨
 ∃b n g esz w e e',v=.tuple [w,e]∧mG τ b n g esz w∧dQ (τ.kill b) e e'∧k (.tuple [.own σ.next n esz,e']) (σ.new σ.next (.row n g esz false))
theorem bl.ex {σ:St} {k:ah} {v:V} {τ:St} (h:bl σ k v τ):∃v σ,k v σ:=by
 rcases h with ⟨u,_,h⟩ | ⟨b,n,g,esz,_,h⟩ | ⟨b,n,g,esz,w,e,e',_,_,_,h⟩
 ·exact⟨_,_,h⟩
 ·exact⟨_,_,h⟩
 ·exact⟨_,_,h⟩
theorem ag.T1 {f:FuncId} {vs us:List V} {σk σf:St} {k:ah} (hk:∀b q,σk.heap.get b=some q→σ.heap.get b=some q) (hf:∀b q,σf.heap.get b=some q→σ.heap.get b=some q)
  (hd:∀b q q',σk.heap.get b=some q→σf.heap.get b=some q'→False) (hn:σk.next=σ.next) (Oy:σf.next=σ.next) (ue:bn σf vs us) (h:bI P f us (bl σk k) start):ag P f vs k σ:=by
 refine⟨⟨?_,?_⟩⟩
 ·obtain⟨v,τ,hx⟩:=h.ex
  obtain⟨u,σ',hu⟩:=bl.ex hx;exact⟨(.val u,σ'),hu⟩
 ·intro ρ w vs' hr hv
  let G:Nat→Prop:=fun c=>∃b q l,σf.heap.get b=some q∧ρ b=some l∧l.c=c
  let bz:Ren:=⟨fun _=>none,fun c o=>open Classical in if G c then w.cell? ⟨c,o,none⟩ else ρ.aL c o⟩
  have vD:∀c o x,ρ.aL c o=some x→bz.aL c o=some x:=by
   intro c o x hx
   show(open Classical in if G c then w.cell? ⟨c,o,none⟩ else ρ.aL c o)=some x
   by_cases hg:G c
   ·rw[if_pos hg];exact(hr.aL c o x hx).1
   ·rw[if_neg hg];exact hx
  have ri:∀c o x,bz.aL c o=some x→w.cell? ⟨c,o,none⟩=some x∧(G c∨(ρ.aL c o=some x∧¬G c)):=by
   intro c o x hx
   replace hx:(open Classical in if G c then w.cell? ⟨c,o,none⟩ else ρ.aL c o)=some x:=hx
   by_cases hg:G c
   ·rw[if_pos hg] at hx;exact⟨hx,.inl hg⟩
   ·rw[if_neg hg] at hx;exact⟨(hr.aL c o x hx).1,.inr ⟨hx,hg⟩⟩
  have Pu:∀ {ρ:Ren} {c:Nat},¬Wr ρ start c:=fun {_ _} ⟨b,k,l,h,_⟩=>by rw[eA] at h;cases h
  have sg:R bz start w:=⟨fun b k hb=>(by rw[eA] at hb;cases hb),fun b b' k k' l l' hb=>(by rw[eA] at hb;cases hb),fun _ _=>rfl,fun _ _ h=>(by cases h),fun c o x hx=>⟨(ri c o x hx).1,Pu⟩,fun q hq=>vD _ _ _ (hr.laid q hq)⟩
  have si:au bz us vs':=eN (hr.sub hf Oy) vD (fun b k l hb hl o x hx=>by
   show(open Classical in if G l.c then w.cell? ⟨l.c,o,none⟩ else ρ.aL l.c o)=some x
   rw[if_pos ⟨b,k,l,hb,hl,rfl⟩];exact hx) ue hv
  obtain⟨g1,g2⟩:=h.h bz w vs' sg si
  refine⟨g1,g2.mono fun e w' hx=>?_⟩
  obtain⟨v,τ,bD,v',hq,rfl,kl,az⟩:=hx
  have hold:∀c,c<w.heap.size→w'.heap[c]? =w.heap[c]? :=fun c hc=>az.aJ c hc Pu
  have fD:∀b q l,τ.heap.get b=some q→bD b=some l→¬l.c<w.heap.size:=fun b q l hb hl hc=>Pu (az.wr l.c hc ⟨b,q,l,hb,rfl,hl,rfl⟩)
  have Pv:∀c o x,c<w.heap.size→bD.aL c o=some x→bz.aL c o=some x:=by
   intro c o x hc hx
   rcases az.gv c o x hx with h1 | h1 | h1
   ·exact h1
   ·omega
   ·exact absurd h1 Pu
  have Zh:∀c o x,bz.aL c o=some x→¬Wr ρ σk c:=by
   rintro c o x hx ⟨b,q,l,h1,_,h3,h4⟩
   rcases(ri c o x hx).2 with ⟨b',q',l',e1,e2,e3⟩ | ⟨e1,_⟩
   ·have:=hr.inj b b' q q' l l' (hk _ _ h1) (hf _ _ e1) h3 e2 (h4.trans e3.symm)
    subst this
    exact hd _ _ _ h1 e1
   ·exact(hr.aL c o x e1).2 ⟨b,q,l,hk _ _ h1,rfl,h3,h4⟩
  have Zi:∀c o x,bz.aL c o=some x→ρ.aL c o=some x∨w.heap.size≤c∨Wr ρ σ c:=by
   intro c o x hx
   rcases(ri c o x hx).2 with ⟨b',q',l',e1,e2,e3⟩ | ⟨e1,_⟩
   ·exact .inr (.inr ⟨b',q',l',hf _ _ e1,rfl,e2,e3⟩)
   ·exact .inl e1
  have bB:∀b l,ρ b=some l→b<σ.next:=fun b l hb=>Nat.lt_of_not_le fun hle=>by rw[hr.fresh b hle] at hb;cases hb
  have row:∀ {b n esz:Nat} {g:Nat→V} {u:V},mG τ b n g esz u→∃bh:Ren,bf pw ρ σ w bh (σk.new σk.next (.row n g esz false)) w'∧(∀x,aq bD u x→aq bh (.own σk.next n esz) x)∧∀ {e e':V} {x:Value},dQ (τ.kill b) e e'→aq bD e x→aq bh e' x:=by
   intro b n esz g u rO
   obtain⟨q,hb⟩:=rO.at
   obtain⟨cg,fI,_⟩:=az.r.cP b q hb
   have yK:=fD b q cg hb fI
   have T2:=az.r.valid b cg fI
   let bh:Ren:=⟨fun i=>if i=σk.next then some cg else ρ i,fun c o=>if c<w.heap.size then bz.aL c o else if c=cg.c then none else w'.cell? ⟨c,o,none⟩⟩
   have Bt:∀i l,bh i=some l→(i=σk.next∧l=cg)∨ρ i=some l:=by
    intro i l hi
    replace hi:(if i=σk.next then some cg else ρ i)=some l:=hi
    by_cases e:i=σk.next
    ·rw[if_pos e] at hi;cases hi;exact .inl ⟨e,rfl⟩
    ·rw[if_neg e] at hi;exact .inr hi
   have F9:∀c o x,bD.aL c o=some x→bh.aL c o=some x:=by
    intro c o x hx
    show(if c<w.heap.size then bz.aL c o else if c=cg.c then none else w'.cell? ⟨c,o,none⟩)=some x
    by_cases hc:c<w.heap.size
    ·rw[if_pos hc];exact Pv c o x hc hx
    ·have h2:=az.r.aL c o x hx
     rw[if_neg hc,if_neg fun e=>h2.2 ⟨b,q,cg,hb,rfl,fI,e.symm⟩];exact h2.1
   have hle:ρ.le bh:=⟨fun i l hi=>by
    show(if i=σk.next then some cg else ρ i)=some l
    rw[if_neg fun e=>by have:=bB i l hi;omega];exact hi,fun c o x hx=>by
    show(if c<w.heap.size then bz.aL c o else _)=some x
    rw[if_pos (eX (hr.aL c o x hx).1)];exact vD c o x hx⟩
   have Pw:R bD (τ.kill b) w':=az.r.sub (fun c k hc=>by
    rw[gZ] at hc
    by_cases e:c=b
    ·rw[if_pos e] at hc;cases hc
    ·rw[if_neg e] at hc;exact hc) rfl
   have hblk:∀b' k l,(τ.kill b).heap.get b'=some k→bD b'=some l→∀o x,w'.cell? ⟨l.c,o,none⟩=some x→bh.aL l.c o=some x:=by
    intro b' k l bq hl o x hx
    rw[gZ] at bq
    by_cases e:b'=b
    ·rw[if_pos e] at bq;cases bq
    ·rw[if_neg e] at bq
     show(if l.c<w.heap.size then bz.aL l.c o else if l.c=cg.c then none else w'.cell? ⟨l.c,o,none⟩)=some x
     rw[if_neg (fD b' k l bq hl),if_neg fun h=>e (az.r.inj b' b k q l cg bq hb hl fI h)]
     exact hx
   refine⟨bh,⟨⟨fun i k hi=>?_,fun i j k k' l l' h1 h2 g1 g2 e=>?_,fun i hi=>?_,fun i l hi=>?_,fun c o x hx=>?_,hr.qG hle⟩,hle,?_,fun i l hi=>?_,az.size,az.os,az.tape,az.output,fun c hc _=>hold c hc,fun c hc hw=>?_,fun i k hi=>?_,fun c o x hx=>?_⟩,fun x hx=>rO.val hx fun l hl=>?_,fun he hx=>mB Pw F9 hblk he hx⟩
   ·rw[ie] at hi
    by_cases e:i=σk.next
    ·rw[if_pos e] at hi;cases hi
     exact⟨cg,if_pos e,rO.cP az.r fI fun hz hx=>eN Pw F9 hblk hz hx⟩
    ·rw[if_neg e] at hi
     obtain⟨l,hl,dD⟩:=hr.cP i k (hk _ _ hi)
     exact⟨l,hle i l hl,dD.same hle (hold l.c (hr.valid i l hl))⟩
   ·rw[ie] at h1 h2
    by_cases e1:i=σk.next
    ·by_cases e2:j=σk.next
     ·rw[e1,e2]
     ·rw[if_neg e2] at h2
      have AF:(if i=σk.next then some cg else ρ i)=some l:=g1
      have wz:(if j=σk.next then some cg else ρ j)=some l':=g2
      rw[if_pos e1] at AF;rw[if_neg e2] at wz
      cases AF
      exact absurd (by rw[e];exact hr.valid j l' wz) yK
    ·rw[if_neg e1] at h1
     have AF:(if i=σk.next then some cg else ρ i)=some l:=g1
     rw[if_neg e1] at AF
     by_cases e2:j=σk.next
     ·have wz:(if j=σk.next then some cg else ρ j)=some l':=g2
      rw[if_pos e2] at wz;cases wz
      exact absurd (by rw[←e];exact hr.valid i l AF) yK
     ·rw[if_neg e2] at h2
      have wz:(if j=σk.next then some cg else ρ j)=some l':=g2
      rw[if_neg e2] at wz
      exact hr.inj i j k k' l l' (hk _ _ h1) (hk _ _ h2) AF wz e
   ·rw[pJ] at hi
    show(if i=σk.next then some cg else ρ i)=none
    rw[if_neg (by omega)]
    exact hr.fresh i (by omega)
   ·rcases Bt i l hi with ⟨_,rfl⟩ | hi
    ·exact T2
    ·exact Nat.lt_of_lt_of_le (hr.valid i l hi) az.size
   ·replace hx:(if c<w.heap.size then bz.aL c o else if c=cg.c then none else w'.cell? ⟨c,o,none⟩)=some x:=hx
    have wr:Wr bh (σk.new σk.next (.row n g esz false)) c→c=cg.c∨Wr ρ σk c:=by
     rintro⟨i,k,l,h1,_,h3,h4⟩
     rw[ie] at h1
     rcases Bt i l h3 with ⟨_,rfl⟩ | K1
     ·exact .inl h4.symm
     ·by_cases e:i=σk.next
      ·have:=bB i l K1;omega
      ·rw[if_neg e] at h1
       exact .inr ⟨i,k,l,h1,rfl,K1,h4⟩
    by_cases hc:c<w.heap.size
    ·rw[if_pos hc] at hx
     refine⟨by rw[cell?_of_block (hold c hc)];exact(ri c o x hx).1,fun hw=>?_⟩
     rcases wr hw with h1 | h1
     ·exact yK (by rw[←h1];exact hc)
     ·exact Zh c o x hx h1
    ·rw[if_neg hc] at hx
     by_cases gB:c=cg.c
     ·rw[if_pos gB] at hx;cases hx
     ·rw[if_neg gB] at hx
      refine⟨hx,fun hw=>?_⟩
      rcases wr hw with h1 | ⟨i,k,l,_,_,h3,h4⟩
      ·exact gB h1
      ·exact hc (by rw[←h4];exact hr.valid i l h3)
   ·rw[pJ];omega
   ·rcases Bt i l hi with ⟨rfl,_⟩ | hi
    ·exact .inr (.inl (by omega))
    ·exact .inl hi
   ·obtain⟨i,k,l,h1,_,h3,h4⟩:=hw
    rw[ie] at h1
    rcases Bt i l h3 with ⟨_,rfl⟩ | K1
    ·exact absurd (by rw[h4];exact hc) yK
    ·by_cases e:i=σk.next
     ·have:=bB i l K1;omega
     ·rw[if_neg e] at h1
      exact⟨i,k,l,hk _ _ h1,rfl,K1,h4⟩
   ·rw[ie] at hi
    by_cases e:i=σk.next
    ·exact .inr (.inl (by omega))
    ·rw[if_neg e] at hi;exact .inl ⟨k,hk _ _ hi⟩
   ·replace hx:(if c<w.heap.size then bz.aL c o else if c=cg.c then none else w'.cell? ⟨c,o,none⟩)=some x:=hx
    by_cases hc:c<w.heap.size
    ·rw[if_pos hc] at hx;exact Zi c o x hx
    ·exact .inr (.inl (Nat.le_of_not_lt hc))
   ·rw[fI] at hl;cases hl
    exact if_pos rfl
  rcases hq with ⟨u,wo,K2⟩ | ⟨b,n,g,esz,rO,K2⟩ | ⟨b,n,g,esz,u,e,e',rfl,rO,he,K2⟩
  ·let bh:Ren:=⟨ρ.at',fun c o=>if c<w.heap.size then bz.aL c o else w'.cell? ⟨c,o,none⟩⟩
   have hle:ρ.le bh:=⟨fun b l hb=>hb,fun c o x hx=>by
    show(if c<w.heap.size then bz.aL c o else _)=some x
    rw[if_pos (eX (hr.aL c o x hx).1)];exact vD c o x hx⟩
   have w8:∀c o x,bD.aL c o=some x→bh.aL c o=some x:=by
    intro c o x hx
    show(if c<w.heap.size then bz.aL c o else _)=some x
    by_cases hc:c<w.heap.size
    ·rw[if_pos hc];exact Pv c o x hc hx
    ·rw[if_neg hc];exact(az.r.aL c o x hx).1
   have hblk:∀b q l,τ.heap.get b=some q→bD b=some l→∀o x,w'.cell? ⟨l.c,o,none⟩=some x→bh.aL l.c o=some x:=by
    intro b q l hb hl o x hx
    show(if l.c<w.heap.size then bz.aL l.c o else _)=some x
    rw[if_neg (fD b q l hb hl)]
    exact hx
   refine⟨u,σk,bh,v',K2,rfl,mB az.r w8 hblk wo kl,⟨⟨fun b q hb=>?_,fun i j k k' l l' h1 h2 g1 g2 e=>hr.inj i j k k' l l' (hk _ _ h1) (hk _ _ h2) g1 g2 e,fun i hi=>hr.fresh i (by omega),fun b l hb=>Nat.lt_of_lt_of_le (hr.valid b l hb) az.size,fun c o x hx=>?_,hr.qG hle⟩,hle,by omega,fun b l hb=>.inl hb,az.size,az.os,az.tape,az.output,
    fun c hc _=>hold c hc,fun c _ ⟨i,q,l,h1,_,h3,h4⟩=>⟨i,q,l,hk _ _ h1,rfl,h3,h4⟩,fun b q hb=>.inl ⟨q,hk _ _ hb⟩,fun c o x hx=>?_⟩⟩
   ·obtain⟨l,hl,dD⟩:=hr.cP b q (hk _ _ hb)
    exact⟨l,hl,dD.same hle (hold l.c (hr.valid b l hl))⟩
   ·replace hx:(if c<w.heap.size then bz.aL c o else w'.cell? ⟨c,o,none⟩)=some x:=hx
    by_cases hc:c<w.heap.size
    ·rw[if_pos hc] at hx
     exact⟨by rw[cell?_of_block (hold c hc)];exact(ri c o x hx).1,Zh c o x hx⟩
    ·rw[if_neg hc] at hx
     refine⟨hx,?_⟩
     rintro⟨b,q,l,_,_,h3,h4⟩
     exact hc (by rw[←h4];exact hr.valid b l h3)
   ·replace hx:(if c<w.heap.size then bz.aL c o else w'.cell? ⟨c,o,none⟩)=some x:=hx
    by_cases hc:c<w.heap.size
    ·rw[if_pos hc] at hx;exact Zi c o x hx
    ·exact .inr (.inl (Nat.le_of_not_lt hc))
  ·obtain⟨bh,h1,h2,_⟩:=row rO
   exact⟨_,_,bh,v',K2,rfl,h2 _ kl,h1⟩
  ·obtain⟨bh,h1,h2,h3⟩:=row rO
   cases kl with
   | tuple kl=>
    cases kl with
    | cons ha hb=>
     cases hb with
     | cons hb hc=>
      cases hc
      exact⟨_,_,bh,_,K2,rfl,.tuple (.cons (h2 _ ha) (.cons (h3 he hb) .nil)),h1⟩
theorem ag.aJ {f:FuncId} {vs us:List V} {k:ah} (ue:bn start vs us) (h:bI P f us (bl σ k) start):ag P f vs k σ:=
 ag.T1 (σk:=σ) (σf:=void σ.next) (fun _ _ h=>h) (fun b q h=>by rw[jI] at h;cases h) (fun b q q' _ h=>by rw[jI] at h;cases h) rfl rfl (bn.fh ue) h
theorem ag.mH {f:FuncId} {vs us:List V} {k:ah} (ue:bn σ vs us) (h:bI P f us (bl (void σ.next) k) start):ag P f vs k σ:=
 ag.T1 (σk:=void σ.next) (σf:=σ) (fun b q h=>by rw[jI] at h;cases h) (fun _ _ h=>h) (fun b q q' h=>by rw[jI] at h;cases h) rfl rfl ue h
theorem bI.imp {f:FuncId} {vs us:List V} {Q:ah} (hi:∀ρ xs,au ρ vs xs→au ρ us xs) (h:bI P f us Q σ):bI P f vs Q σ:=
 ⟨h.ex,fun ρ w vs' hr hv=>h.h ρ w vs' hr (hi ρ vs' hv)⟩
noncomputable def aT (q:bV):St:=⟨Trie.put .leaf 0 (some q),1⟩
omit [Env] in
theorem M8 {q k:bV} {i:Nat} (h:(aT q).heap.get i=some k):i=0∧k=q:=by
 have h':(Trie.put .leaf 0 (some q)).get i=some k:=h
 rw[Trie.bP] at h'
 by_cases e:i=0
 ·rw[if_pos e] at h';cases h';exact⟨e,rfl⟩
 ·rw[if_neg e,Trie.eK] at h';cases h'
theorem ag.aa4 {f:FuncId} {cs:List V} {b n esz:Nat} {g:Nat→V} {p:Bool} {es:List V} {A:Nat→(Nat→V)→Prop} {k:ah} (hb:σ.heap.get b=some (.row n g esz p)) (hu:∀i,i<n→(g i).cells.length=esz) (hg:∀i,i<n→∀u∈(g i).cells,Clean u)
  (he:es=ar (b9 n g)) (dE:∀v∈cs,Clean v) (h:bI P f (.slice 0 0 n n false esz::cs) (eH esz A) (aT (.cells (n*esz) [] (an es .leaf 0) false false))) (hk:∀n g,A n g→k (.own σ.next n esz) ((σ.kill b).new σ.next (.row n g esz false))):ag P f (.own b n esz::cs) k σ:=
 ag.frame (m:=fun i=>if i=0 then some b else none) (σ₀:=aT (.cells (n*esz) [] (an es .leaf 0) false false)) (fun i j c h1 h2=>by
   by_cases e1:i=0
   ·by_cases e2:j=0
    ·rw[e1,e2]
    ·simp only[if_neg e2] at h2;cases h2
   ·simp only[if_neg e1] at h1;cases h1)
  (fun i hi=>if_neg (by have:1≤i:=hi;omega))
  (fun i k hi=>by
   obtain⟨rfl,rfl⟩:=M8 hi
   refine⟨b,_,if_pos rfl,hb,.ofRow fun i v hv=>?_⟩
   subst he
   rcases fR hv with ⟨_,h2,h3⟩ | ⟨_,h2⟩
   ·rw[Nat.sub_zero] at h3
    have cL:=fZ hu
    have bB:i<n*esz:=by
     have:=(List.getElem?_eq_some_iff.1 h3).1
     rwa [cX cL,aS] at this
    have h0:0<esz:=by
     rcases Nat.eq_zero_or_pos esz with h | h
     ·subst h;simp at bB
     ·exact h
    have hi:i/esz<n:=(Nat.div_lt_iff_lt_mul h0).2 bB
    have ed:i%esz<esz:=Nat.mod_lt _ h0
    have e:i/esz*esz+i%esz=i:=by rw[Nat.mul_comm];exact Nat.div_add_mod i esz
    have T3:=fT cL (dg (f:=g) hi) ed
    rw[e,h3] at T3
    exact⟨_,_,v,hi,e.symm,T3.symm,.clean (hg _ hi v (List.mem_of_getElem? T3.symm))⟩
   ·unfold cellOf at h2
    split at h2
    ·rw[Trie.eK] at h2;simp [dA] at h2
    ·cases h2)
  (.cons (.O1 (if_pos rfl)) (eI.clean dE)) h
  (SX (κ:=σ.kill b) (fun i k hi=>by
   rw[gZ] at hi
   by_cases e:i=b
   ·rw[if_pos e] at hi;cases hi
   ·rw[if_neg e] at hi
    refine⟨hi,fun j k' _ hj=>?_⟩
    by_cases ej:j=0
    ·simp only[if_pos ej] at hj;cases hj;exact e rfl
    ·simp only[if_neg ej] at hj;cases hj) rfl hk)
end
end Go.Ev
end
section
namespace Go.Proofs.YtbajncpfmemdgaaGreatDoor
open Go Go.Ev
def dz (t:aa):Prop:=∀c∈t.f2,sU c.f3
def fi (c:ak):Prop:=sU c.f8.f3∧dz c.f9
def bw (t:aa) (s:List UInt8):Int:=cd s (fun i=>(t.f2.getD i default).f0) t.f2.length
def bj {α:Type} (p:Nat→Bool) (q:Nat→α):Nat→List α
 | 0=>[]
 | n+1=>if p n=true then bj p q n++[q n] else bj p q n
def eT (l:List (List UInt8)) (s:List UInt8):Int:=cd s (fun i=>l.getD i default) l.length
noncomputable def ql (t:aa) (c:aj):Int:=
 if bR c≠0 then bR c else if 0≤bw t c.f0 then 12 else if 8≤t.f2.length then 2 else if c.f2=false∧c.f3.f0=0 then 11 else 0
def zO (t:aa) (c:aj):aa:=⟨t.f0,t.f1,t.f2++[c]⟩
def Bu (t:aa) (s:List UInt8):Int:=if bw t s<t.f1 then 10 else 0
def Ix (t:aa) (s:List UInt8):aa:=⟨t.f0,t.f1,bj (fun i=>decide ((i:Int)≠bw t s)) (fun i=>t.f2.getD i default) t.f2.length⟩
def jq (t:aa) (s:List UInt8):aj:=t.f2.getD (bw t s).toNat default
def xi (t:aa) (s:List UInt8) (d:Int):Int:=if bw t s<t.f1 then 10 else if il (jq t s).f1 d=true then 0 else 5
noncomputable def xj (x:aj) (d:Int):aj:=⟨x.f0,d,x.f2,uc x.f3 d⟩
noncomputable def uf (t:aa) (s:List UInt8) (d:Int):aa:=⟨t.f0,t.f1,t.f2.set (bw t s).toNat (xj (jq t s) d)⟩
noncomputable def mJ (t:aa) (c:ak):Int:=
 if aD c.f3≠0 then aD c.f3 else if aD c.f4≠0 then aD c.f4 else if c.f3=c.f4 then 12
 else c9 (fun i=>if bw t (c.f7.getD i default)<t.f1∨eT c.f7 (c.f7.getD i default)≠i then 10 else 0) c.f7.length
def named (t:aa) (c:ak) (i:Nat):Bool:=decide (0≤eT c.f7 (t.f2.getD i default).f0)
def kQ (t:aa) (c:ak) (b:Bool) (i:Nat):Bool:=decide ((i:Int)<t.f1)||(named t c i==b)
def Da (t:aa) (c:ak):List aa:=
 [⟨c.f3,t.f1,bj (kQ t c true) (fun i=>t.f2.getD i default) t.f2.length⟩,⟨c.f4,t.f1,bj (kQ t c false) (fun i=>t.f2.getD i default) t.f2.length⟩]
noncomputable def ug (t u:aa) (c:ak):Int:=
 if c.f1=c.f2 then 12 else if aD c.f3≠0 then aD c.f3 else @ite _ (t.f1≠u.f1∨t.f2≠u.f2) (Classical.propDecidable _) 11 0
def T4 (t:aa) (c:ak):aa:=⟨c.f3,t.f1,t.f2⟩
def aK (c:ak):List (List UInt8):=if c.f0=6 then [c.f1,c.f2] else if 2≤c.f0∧c.f0≤5 then [c.f1] else []
noncomputable def kE (c:ak) (t u:aa):Int:=
 if c.f0=1 then bu c.f9 else if c.f0=2 then ql t c.f8 else if c.f0=3 then Bu t c.f5 else if c.f0=4 then xi t c.f5 c.f6 else if c.f0=5 then mJ t c else ug t u c
noncomputable def kT (c:ak) (t:aa):List aa:=
 if c.f0=1 then [c.f9] else if c.f0=2 then [zO t c.f8] else if c.f0=3 then [Ix t c.f5] else if c.f0=4 then [uf t c.f5 c.f6] else if c.f0=5 then Da t c else [T4 t c]
noncomputable def aX (l:List aa) (s:List UInt8):aa:=l.getD (aW l s).toNat default
noncomputable def eB (l:List aa) (ss:List (List UInt8)):Int:=c9 (fun i=>if aW l (ss.getD i default)<0 then 9 else 0) ss.length
noncomputable def Px (l:List aa) (ss:List (List UInt8)) (out:List aa):Int:=c9 (fun i=>if 0≤aW l (out.getD i default).f0∧eT ss (out.getD i default).f0<0 then 12 else 0) out.length
noncomputable def ct (l:List aa) (c:ak):Int:=
 if cn l≠0 then cn l else if c.f0<1∨6<c.f0 then 1 else if eB l (aK c)≠0 then eB l (aK c)
 else if kE c (aX l c.f1) (aX l c.f2)≠0 then kE c (aX l c.f1) (aX l c.f2) else Px l (aK c) (kT c (aX l c.f1))
noncomputable def bY (l:List aa) (c:ak):List aa:=if ct l c=0 then kT c (aX l c.f1) else []
def bE (n:Nat) (f:Nat→V) (l:List aj):Prop:=n=l.length∧∀i,i<n→f i=aj.enc (l.getD i default)
noncomputable def Py (l:List Int):Int:=c9 (fun i=>l.getD i default) l.length
def aN:List aj→List V
 | []=>[]
 | x::r=>x.cells++aN r
def dJ:aj:=⟨[],0,false,⟨0,0,0,[]⟩⟩
def zP:Nat→List Nat:=(fun i=>match i with | 0=>[0,1,7,8] | _=>[])
theorem aa5 [Env] (A:Nat→List SV→Prop) (Q:V→Prop) (n:Nat) (h:Nat→List UInt8) (s:List UInt8):WE Tryz.prog 122 Tryz.f122 C8 0 zP A (fun v _=>Q v) [V.arr n (fun i=>V.str (h i)) 1 false false,.str s] Go.Ev.start=
  (A 0 [.val (V.arr n (fun i=>V.str (h i)) 1 false false),.val (.str s),.val (.int .i64 (((n:Nat):Int))),.val (.int .i64 (0:Int))]):=by kernel_rfl
theorem aa6 [Env] (A:Nat→List SV→Prop) (Q:V→Prop) (n:Nat) (h:Nat→List UInt8) (s:List UInt8) (m i:Int):WL Tryz.prog 122 Tryz.f122 C8 0 zP A (fun v _=>Q v) 0 [.val (V.arr n (fun i=>V.str (h i)) 1 false false),.val (.str s),.val (.int .i64 m),.val (.int .i64 i)]=
  (((.i64:IntKind)=.i64∧af (decide (i<m)) (((0≤i∧i<((n:Nat):Int))∧af (decide (s=(h i.toNat))) (Q (.int .i64 i)) (A 0 [.val (V.arr n (fun i=>V.str (h i)) 1 false false),.val (.str s),.val (.int .i64 m),.val (.int .i64 (IntKind.i64.wrap (i+(1:Int))))]))) (Q (.int .i64 (-1:Int))))):=by kernel_rfl
def M9 [Env] (vs:List V) (σ:St) (k:ah):Prop:=
 match vs with
 | [.arr n f 1 false false,.str s]=>∃q:Nat→List UInt8,f=(fun i=>V.str (q i))∧n≤1000000∧k (.int .i64 (cd s q n)) σ
 | _=>False
def Iy [Env]:=kS 122 M9 C8
def K3:Nat→List Nat:=(fun _=>[])
theorem e73 [Env] (A:Nat→List SV→Prop) (Q:V→Prop) (n:Nat) (h:Nat→List UInt8) (s:List UInt8):WE Tryz.prog 73 Tryz.f73 Iy 0 K3 A (fun v _=>Q v) [V.arr n (fun i=>V.str (h i)) 1 false false,.str s] Go.Ev.start=
  ((∃T5:Nat→List UInt8,(fun i=>V.str (h i))=(fun i=>V.str (T5 i))∧n≤1000000∧((.i64:IntKind)=.i64∧af (decide ((cd s T5 n)≥(0:Int))) (Q (.bool true)) (Q (.bool false))))):=by kernel_rfl
def T6 [Env] (vs:List V) (σ:St) (k:ah):Prop:=
 match vs with
 | [.arr n f 1 false false,.str s]=>∃q:Nat→List UInt8,f=(fun i=>V.str (q i))∧n≤1000000∧k (.bool (decide (0≤cd s q n))) σ
 | _=>False
def Iz [Env]:=kS 73 T6 Iy
def Ga:Nat→List Nat:=(fun _=>[])
theorem aa7 [Env] (A:Nat→List SV→Prop) (Q:V→Prop) (n:Nat) (h:Nat→List UInt8) (s:List UInt8):WE Tryz.prog 250 Tryz.f250 Iz 0 Ga A (fun v _=>Q v) [V.arr n (fun i=>V.str (h i)) 1 false false,.str s] Go.Ev.start=
  ((∃T7:Nat→List UInt8,(fun i=>V.str (h i))=(fun i=>V.str (T7 i))∧n≤1000000∧Q (.int .i64 (cd s T7 n)))):=by kernel_rfl
def Na [Env] (vs:List V) (σ:St) (k:ah):Prop:=
 match vs with
 | [.arr n f 1 false false,.str s]=>∃q:Nat→List UInt8,f=(fun i=>V.str (q i))∧n≤1000000∧k (.int .i64 (cd s q n)) σ
 | _=>False
def IA [Env]:=kS 250 Na Iz
def Gb:Nat→List Nat:=(fun _=>[])
theorem aa8 [Env] (A:Nat→List SV→Prop) (Q:V→Prop) (t:aa) (s:List UInt8):WE Tryz.prog 226 Tryz.f226 IA 0 Gb A (fun v _=>Q v) [aa.enc t,.str s] Go.Ev.start=
  ((∃T8:Nat→aj,(fun i=>aj.enc (t.f2.getD i default))=(fun i=>aj.enc (T8 i))∧t.f2.length≤1000∧(∃T9:Nat→List UInt8,(fun i=>V.str ((fun i=>(T8 i).f0) i))=(fun i=>V.str (T9 i))∧t.f2.length≤1000000∧Q (.int .i64 (cd s T9 t.f2.length))))):=by kernel_rfl
def Ua [Env] (vs:List V) (σ:St) (k:ah):Prop:=
 ∃(t:aa) (s:List UInt8),vs=[aa.enc t,.str s]∧t.f2.length≤1000∧k (.int .i64 (bw t s)) σ
def Db [Env]:=kS 226 Ua IA
def Dc:Nat→List Nat:=(fun _=>[])
theorem Zj [Env] (A:Nat→List SV→Prop) (Q:V→St→Prop) (l:List aj):WE Tryz.prog 74 Tryz.f74 Db 0 Dc A Q [HQ aj.enc 7 l] Go.Ev.start=
  (af (decide (l.length=0)) (Q (.slice 0 0 (0) (0) true 7) ⟨(St.new Go.Ev.start 0 (.cells 0 [] (an [] .leaf 0) true false)).heap,1⟩) (l.length*72≤1099511627776∧Q (.own 1 l.length 7) ⟨(St.new (St.new Go.Ev.start 0 (.cells 0 [] (an [] .leaf 0) true false)) 1 (.row l.length (fun i=>aj.enc (l.getD i default)) 7 true)).heap,2⟩)):=by kernel_rfl
def Zk [Env] (vs:List V) (σ:St) (k:ah):Prop:=
 ∃l:List aj,vs=[ae aj.enc 7 l]∧(0<l.length∧l.length≤1000)∧k (.own σ.next l.length 7) (σ.new σ.next (.row l.length (fun i=>aj.enc (l.getD i default)) 7 false))
def cc [Env]:=kS 74 Zk Db
theorem Nb [Env] (A:Nat→List SV→Prop) (Q:V→St→Prop) (x0 x1:aj):WE Tryz.prog 307 Tryz.f307 cc 0 (fun _=>[]) A Q [.slice 0 0 2 2 false 7,.int .i64 1,.int .i64 2] (aT (.cells 14 [] (an (aN [x0,x1]) .leaf 0) false false))=
  (((.i64:IntKind)=.i64∧Q (.slice 0 0 (1) (2) false 7) ⟨(aT (.cells 14 [] (an (aN [x0,dJ]) .leaf 0) false false)).heap,9⟩)):=by kernel_rfl
theorem Nc [Env] (A:Nat→List SV→Prop) (Q:V→St→Prop) (x0 x1 x2:aj):WE Tryz.prog 307 Tryz.f307 cc 0 (fun _=>[]) A Q [.slice 0 0 3 3 false 7,.int .i64 1,.int .i64 2] (aT (.cells 21 [] (an (aN [x0,x1,x2]) .leaf 0) false false))=
  (((.i64:IntKind)=.i64∧Q (.slice 0 0 (2) (3) false 7) ⟨(aT (.cells 21 [] (an (aN [x0,x2,dJ]) .leaf 0) false false)).heap,9⟩)):=by kernel_rfl
theorem Nd [Env] (A:Nat→List SV→Prop) (Q:V→St→Prop) (x0 x1 x2:aj):WE Tryz.prog 307 Tryz.f307 cc 0 (fun _=>[]) A Q [.slice 0 0 3 3 false 7,.int .i64 2,.int .i64 3] (aT (.cells 21 [] (an (aN [x0,x1,x2]) .leaf 0) false false))=
  (((.i64:IntKind)=.i64∧Q (.slice 0 0 (2) (3) false 7) ⟨(aT (.cells 21 [] (an (aN [x0,x1,dJ]) .leaf 0) false false)).heap,9⟩)):=by kernel_rfl
theorem Nf [Env] (A:Nat→List SV→Prop) (Q:V→St→Prop) (x0 x1 x2 x3:aj):WE Tryz.prog 307 Tryz.f307 cc 0 (fun _=>[]) A Q [.slice 0 0 4 4 false 7,.int .i64 1,.int .i64 2] (aT (.cells 28 [] (an (aN [x0,x1,x2,x3]) .leaf 0) false false))=
  (((.i64:IntKind)=.i64∧Q (.slice 0 0 (3) (4) false 7) ⟨(aT (.cells 28 [] (an (aN [x0,x2,x3,dJ]) .leaf 0) false false)).heap,9⟩)):=by kernel_rfl
theorem Ng [Env] (A:Nat→List SV→Prop) (Q:V→St→Prop) (x0 x1 x2 x3:aj):WE Tryz.prog 307 Tryz.f307 cc 0 (fun _=>[]) A Q [.slice 0 0 4 4 false 7,.int .i64 2,.int .i64 3] (aT (.cells 28 [] (an (aN [x0,x1,x2,x3]) .leaf 0) false false))=
  (((.i64:IntKind)=.i64∧Q (.slice 0 0 (3) (4) false 7) ⟨(aT (.cells 28 [] (an (aN [x0,x1,x3,dJ]) .leaf 0) false false)).heap,9⟩)):=by kernel_rfl
theorem Nh [Env] (A:Nat→List SV→Prop) (Q:V→St→Prop) (x0 x1 x2 x3:aj):WE Tryz.prog 307 Tryz.f307 cc 0 (fun _=>[]) A Q [.slice 0 0 4 4 false 7,.int .i64 3,.int .i64 4] (aT (.cells 28 [] (an (aN [x0,x1,x2,x3]) .leaf 0) false false))=
  (((.i64:IntKind)=.i64∧Q (.slice 0 0 (3) (4) false 7) ⟨(aT (.cells 28 [] (an (aN [x0,x1,x2,dJ]) .leaf 0) false false)).heap,9⟩)):=by kernel_rfl
theorem Ni [Env] (A:Nat→List SV→Prop) (Q:V→St→Prop) (x0 x1 x2 x3 x4:aj):WE Tryz.prog 307 Tryz.f307 cc 0 (fun _=>[]) A Q [.slice 0 0 5 5 false 7,.int .i64 1,.int .i64 2] (aT (.cells 35 [] (an (aN [x0,x1,x2,x3,x4]) .leaf 0) false false))=
  (((.i64:IntKind)=.i64∧Q (.slice 0 0 (4) (5) false 7) ⟨(aT (.cells 35 [] (an (aN [x0,x2,x3,x4,dJ]) .leaf 0) false false)).heap,9⟩)):=by kernel_rfl
theorem Nj [Env] (A:Nat→List SV→Prop) (Q:V→St→Prop) (x0 x1 x2 x3 x4:aj):WE Tryz.prog 307 Tryz.f307 cc 0 (fun _=>[]) A Q [.slice 0 0 5 5 false 7,.int .i64 2,.int .i64 3] (aT (.cells 35 [] (an (aN [x0,x1,x2,x3,x4]) .leaf 0) false false))=
  (((.i64:IntKind)=.i64∧Q (.slice 0 0 (4) (5) false 7) ⟨(aT (.cells 35 [] (an (aN [x0,x1,x3,x4,dJ]) .leaf 0) false false)).heap,9⟩)):=by kernel_rfl
theorem Nk [Env] (A:Nat→List SV→Prop) (Q:V→St→Prop) (x0 x1 x2 x3 x4:aj):WE Tryz.prog 307 Tryz.f307 cc 0 (fun _=>[]) A Q [.slice 0 0 5 5 false 7,.int .i64 3,.int .i64 4] (aT (.cells 35 [] (an (aN [x0,x1,x2,x3,x4]) .leaf 0) false false))=
  (((.i64:IntKind)=.i64∧Q (.slice 0 0 (4) (5) false 7) ⟨(aT (.cells 35 [] (an (aN [x0,x1,x2,x4,dJ]) .leaf 0) false false)).heap,9⟩)):=by kernel_rfl
theorem Nl [Env] (A:Nat→List SV→Prop) (Q:V→St→Prop) (x0 x1 x2 x3 x4:aj):WE Tryz.prog 307 Tryz.f307 cc 0 (fun _=>[]) A Q [.slice 0 0 5 5 false 7,.int .i64 4,.int .i64 5] (aT (.cells 35 [] (an (aN [x0,x1,x2,x3,x4]) .leaf 0) false false))=
  (((.i64:IntKind)=.i64∧Q (.slice 0 0 (4) (5) false 7) ⟨(aT (.cells 35 [] (an (aN [x0,x1,x2,x3,dJ]) .leaf 0) false false)).heap,9⟩)):=by kernel_rfl
theorem Nn [Env] (A:Nat→List SV→Prop) (Q:V→St→Prop) (x0 x1 x2 x3 x4 x5:aj):WE Tryz.prog 307 Tryz.f307 cc 0 (fun _=>[]) A Q [.slice 0 0 6 6 false 7,.int .i64 1,.int .i64 2] (aT (.cells 42 [] (an (aN [x0,x1,x2,x3,x4,x5]) .leaf 0) false false))=
  (((.i64:IntKind)=.i64∧Q (.slice 0 0 (5) (6) false 7) ⟨(aT (.cells 42 [] (an (aN [x0,x2,x3,x4,x5,dJ]) .leaf 0) false false)).heap,9⟩)):=by kernel_rfl
theorem Np [Env] (A:Nat→List SV→Prop) (Q:V→St→Prop) (x0 x1 x2 x3 x4 x5:aj):WE Tryz.prog 307 Tryz.f307 cc 0 (fun _=>[]) A Q [.slice 0 0 6 6 false 7,.int .i64 2,.int .i64 3] (aT (.cells 42 [] (an (aN [x0,x1,x2,x3,x4,x5]) .leaf 0) false false))=
  (((.i64:IntKind)=.i64∧Q (.slice 0 0 (5) (6) false 7) ⟨(aT (.cells 42 [] (an (aN [x0,x1,x3,x4,x5,dJ]) .leaf 0) false false)).heap,9⟩)):=by kernel_rfl
theorem Nq [Env] (A:Nat→List SV→Prop) (Q:V→St→Prop) (x0 x1 x2 x3 x4 x5:aj):WE Tryz.prog 307 Tryz.f307 cc 0 (fun _=>[]) A Q [.slice 0 0 6 6 false 7,.int .i64 3,.int .i64 4] (aT (.cells 42 [] (an (aN [x0,x1,x2,x3,x4,x5]) .leaf 0) false false))=
  (((.i64:IntKind)=.i64∧Q (.slice 0 0 (5) (6) false 7) ⟨(aT (.cells 42 [] (an (aN [x0,x1,x2,x4,x5,dJ]) .leaf 0) false false)).heap,9⟩)):=by kernel_rfl
theorem Nr [Env] (A:Nat→List SV→Prop) (Q:V→St→Prop) (x0 x1 x2 x3 x4 x5:aj):WE Tryz.prog 307 Tryz.f307 cc 0 (fun _=>[]) A Q [.slice 0 0 6 6 false 7,.int .i64 4,.int .i64 5] (aT (.cells 42 [] (an (aN [x0,x1,x2,x3,x4,x5]) .leaf 0) false false))=
  (((.i64:IntKind)=.i64∧Q (.slice 0 0 (5) (6) false 7) ⟨(aT (.cells 42 [] (an (aN [x0,x1,x2,x3,x5,dJ]) .leaf 0) false false)).heap,9⟩)):=by kernel_rfl
theorem Ns [Env] (A:Nat→List SV→Prop) (Q:V→St→Prop) (x0 x1 x2 x3 x4 x5:aj):WE Tryz.prog 307 Tryz.f307 cc 0 (fun _=>[]) A Q [.slice 0 0 6 6 false 7,.int .i64 5,.int .i64 6] (aT (.cells 42 [] (an (aN [x0,x1,x2,x3,x4,x5]) .leaf 0) false false))=
  (((.i64:IntKind)=.i64∧Q (.slice 0 0 (5) (6) false 7) ⟨(aT (.cells 42 [] (an (aN [x0,x1,x2,x3,x4,dJ]) .leaf 0) false false)).heap,9⟩)):=by kernel_rfl
theorem Nt [Env] (A:Nat→List SV→Prop) (Q:V→St→Prop) (x0 x1 x2 x3 x4 x5 x6:aj):WE Tryz.prog 307 Tryz.f307 cc 0 (fun _=>[]) A Q [.slice 0 0 7 7 false 7,.int .i64 1,.int .i64 2] (aT (.cells 49 [] (an (aN [x0,x1,x2,x3,x4,x5,x6]) .leaf 0) false false))=
  (((.i64:IntKind)=.i64∧Q (.slice 0 0 (6) (7) false 7) ⟨(aT (.cells 49 [] (an (aN [x0,x2,x3,x4,x5,x6,dJ]) .leaf 0) false false)).heap,9⟩)):=by kernel_rfl
theorem Nu [Env] (A:Nat→List SV→Prop) (Q:V→St→Prop) (x0 x1 x2 x3 x4 x5 x6:aj):WE Tryz.prog 307 Tryz.f307 cc 0 (fun _=>[]) A Q [.slice 0 0 7 7 false 7,.int .i64 2,.int .i64 3] (aT (.cells 49 [] (an (aN [x0,x1,x2,x3,x4,x5,x6]) .leaf 0) false false))=
  (((.i64:IntKind)=.i64∧Q (.slice 0 0 (6) (7) false 7) ⟨(aT (.cells 49 [] (an (aN [x0,x1,x3,x4,x5,x6,dJ]) .leaf 0) false false)).heap,9⟩)):=by kernel_rfl
theorem Nv [Env] (A:Nat→List SV→Prop) (Q:V→St→Prop) (x0 x1 x2 x3 x4 x5 x6:aj):WE Tryz.prog 307 Tryz.f307 cc 0 (fun _=>[]) A Q [.slice 0 0 7 7 false 7,.int .i64 3,.int .i64 4] (aT (.cells 49 [] (an (aN [x0,x1,x2,x3,x4,x5,x6]) .leaf 0) false false))=
  (((.i64:IntKind)=.i64∧Q (.slice 0 0 (6) (7) false 7) ⟨(aT (.cells 49 [] (an (aN [x0,x1,x2,x4,x5,x6,dJ]) .leaf 0) false false)).heap,9⟩)):=by kernel_rfl
theorem Nw [Env] (A:Nat→List SV→Prop) (Q:V→St→Prop) (x0 x1 x2 x3 x4 x5 x6:aj):WE Tryz.prog 307 Tryz.f307 cc 0 (fun _=>[]) A Q [.slice 0 0 7 7 false 7,.int .i64 4,.int .i64 5] (aT (.cells 49 [] (an (aN [x0,x1,x2,x3,x4,x5,x6]) .leaf 0) false false))=
  (((.i64:IntKind)=.i64∧Q (.slice 0 0 (6) (7) false 7) ⟨(aT (.cells 49 [] (an (aN [x0,x1,x2,x3,x5,x6,dJ]) .leaf 0) false false)).heap,9⟩)):=by kernel_rfl
theorem Nx [Env] (A:Nat→List SV→Prop) (Q:V→St→Prop) (x0 x1 x2 x3 x4 x5 x6:aj):WE Tryz.prog 307 Tryz.f307 cc 0 (fun _=>[]) A Q [.slice 0 0 7 7 false 7,.int .i64 5,.int .i64 6] (aT (.cells 49 [] (an (aN [x0,x1,x2,x3,x4,x5,x6]) .leaf 0) false false))=
  (((.i64:IntKind)=.i64∧Q (.slice 0 0 (6) (7) false 7) ⟨(aT (.cells 49 [] (an (aN [x0,x1,x2,x3,x4,x6,dJ]) .leaf 0) false false)).heap,9⟩)):=by kernel_rfl
theorem Ny [Env] (A:Nat→List SV→Prop) (Q:V→St→Prop) (x0 x1 x2 x3 x4 x5 x6:aj):WE Tryz.prog 307 Tryz.f307 cc 0 (fun _=>[]) A Q [.slice 0 0 7 7 false 7,.int .i64 6,.int .i64 7] (aT (.cells 49 [] (an (aN [x0,x1,x2,x3,x4,x5,x6]) .leaf 0) false false))=
  (((.i64:IntKind)=.i64∧Q (.slice 0 0 (6) (7) false 7) ⟨(aT (.cells 49 [] (an (aN [x0,x1,x2,x3,x4,x5,dJ]) .leaf 0) false false)).heap,9⟩)):=by kernel_rfl
theorem Nz [Env] (A:Nat→List SV→Prop) (Q:V→St→Prop) (x0 x1 x2 x3 x4 x5 x6 x7:aj):WE Tryz.prog 307 Tryz.f307 cc 0 (fun _=>[]) A Q [.slice 0 0 8 8 false 7,.int .i64 1,.int .i64 2] (aT (.cells 56 [] (an (aN [x0,x1,x2,x3,x4,x5,x6,x7]) .leaf 0) false false))=
  (((.i64:IntKind)=.i64∧Q (.slice 0 0 (7) (8) false 7) ⟨(aT (.cells 56 [] (an (aN [x0,x2,x3,x4,x5,x6,x7,dJ]) .leaf 0) false false)).heap,9⟩)):=by kernel_rfl
theorem NA [Env] (A:Nat→List SV→Prop) (Q:V→St→Prop) (x0 x1 x2 x3 x4 x5 x6 x7:aj):WE Tryz.prog 307 Tryz.f307 cc 0 (fun _=>[]) A Q [.slice 0 0 8 8 false 7,.int .i64 2,.int .i64 3] (aT (.cells 56 [] (an (aN [x0,x1,x2,x3,x4,x5,x6,x7]) .leaf 0) false false))=
  (((.i64:IntKind)=.i64∧Q (.slice 0 0 (7) (8) false 7) ⟨(aT (.cells 56 [] (an (aN [x0,x1,x3,x4,x5,x6,x7,dJ]) .leaf 0) false false)).heap,9⟩)):=by kernel_rfl
theorem NB [Env] (A:Nat→List SV→Prop) (Q:V→St→Prop) (x0 x1 x2 x3 x4 x5 x6 x7:aj):WE Tryz.prog 307 Tryz.f307 cc 0 (fun _=>[]) A Q [.slice 0 0 8 8 false 7,.int .i64 3,.int .i64 4] (aT (.cells 56 [] (an (aN [x0,x1,x2,x3,x4,x5,x6,x7]) .leaf 0) false false))=
  (((.i64:IntKind)=.i64∧Q (.slice 0 0 (7) (8) false 7) ⟨(aT (.cells 56 [] (an (aN [x0,x1,x2,x4,x5,x6,x7,dJ]) .leaf 0) false false)).heap,9⟩)):=by kernel_rfl
theorem NC [Env] (A:Nat→List SV→Prop) (Q:V→St→Prop) (x0 x1 x2 x3 x4 x5 x6 x7:aj):WE Tryz.prog 307 Tryz.f307 cc 0 (fun _=>[]) A Q [.slice 0 0 8 8 false 7,.int .i64 4,.int .i64 5] (aT (.cells 56 [] (an (aN [x0,x1,x2,x3,x4,x5,x6,x7]) .leaf 0) false false))=
  (((.i64:IntKind)=.i64∧Q (.slice 0 0 (7) (8) false 7) ⟨(aT (.cells 56 [] (an (aN [x0,x1,x2,x3,x5,x6,x7,dJ]) .leaf 0) false false)).heap,9⟩)):=by kernel_rfl
theorem ND [Env] (A:Nat→List SV→Prop) (Q:V→St→Prop) (x0 x1 x2 x3 x4 x5 x6 x7:aj):WE Tryz.prog 307 Tryz.f307 cc 0 (fun _=>[]) A Q [.slice 0 0 8 8 false 7,.int .i64 5,.int .i64 6] (aT (.cells 56 [] (an (aN [x0,x1,x2,x3,x4,x5,x6,x7]) .leaf 0) false false))=
  (((.i64:IntKind)=.i64∧Q (.slice 0 0 (7) (8) false 7) ⟨(aT (.cells 56 [] (an (aN [x0,x1,x2,x3,x4,x6,x7,dJ]) .leaf 0) false false)).heap,9⟩)):=by kernel_rfl
theorem NF [Env] (A:Nat→List SV→Prop) (Q:V→St→Prop) (x0 x1 x2 x3 x4 x5 x6 x7:aj):WE Tryz.prog 307 Tryz.f307 cc 0 (fun _=>[]) A Q [.slice 0 0 8 8 false 7,.int .i64 6,.int .i64 7] (aT (.cells 56 [] (an (aN [x0,x1,x2,x3,x4,x5,x6,x7]) .leaf 0) false false))=
  (((.i64:IntKind)=.i64∧Q (.slice 0 0 (7) (8) false 7) ⟨(aT (.cells 56 [] (an (aN [x0,x1,x2,x3,x4,x5,x7,dJ]) .leaf 0) false false)).heap,9⟩)):=by kernel_rfl
theorem NG [Env] (A:Nat→List SV→Prop) (Q:V→St→Prop) (x0 x1 x2 x3 x4 x5 x6 x7:aj):WE Tryz.prog 307 Tryz.f307 cc 0 (fun _=>[]) A Q [.slice 0 0 8 8 false 7,.int .i64 7,.int .i64 8] (aT (.cells 56 [] (an (aN [x0,x1,x2,x3,x4,x5,x6,x7]) .leaf 0) false false))=
  (((.i64:IntKind)=.i64∧Q (.slice 0 0 (7) (8) false 7) ⟨(aT (.cells 56 [] (an (aN [x0,x1,x2,x3,x4,x5,x6,dJ]) .leaf 0) false false)).heap,9⟩)):=by kernel_rfl
def NH [Env] (vs:List V) (σ:St) (k:ah):Prop:=
 match vs with
 | [.own b n 7,.int .i64 x,.int .i64 y]=>∃(l:List aj) (i:Nat),(n=l.length∧x=i∧y=(i:Int)+1)∧σ.heap.get b=some (.row l.length (fun j=>aj.enc (l.getD j default)) 7 false)∧(0<i∧i<l.length∧l.length≤8)∧∀m f,bE m f (bj (fun j=>decide (j≠i)) (fun j=>l.getD j default) l.length)→k (.own σ.next m 7) ((σ.kill b).new σ.next (.row m f 7 false))
 | _=>False
def IB [Env]:=kS 307 NH cc
end Go.Proofs.YtbajncpfmemdgaaGreatDoor
end
