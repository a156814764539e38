/- Proved: parts of the way: BEq15, BC4, BC5, BEq16, BEq17. -/
import Derived.Test.YtbajncpfmemdgaaGreatDoorEvQ16
set_option linter.unusedVariables false
set_option linter.unusedSimpArgs false
section
namespace Go.Proofs.YtbajncpfmemdgaaGreatDoor
open Go Go.Ev
def Fa:Nat→List Nat:=(fun _=>[])
theorem ZR [Env] (A:Nat→List SV→Prop) (Q:V→Prop) (x d:Int):WE Tryz.prog 255 Tryz.f255 HI 0 Fa A (fun v _=>Q v) [.int .i64 x,.int .i64 d] Go.Ev.start=
  (((.i64:IntKind)=.i64∧ae (decide (d=(1:Int))) (((.i64:IntKind)=.i64∧ae (decide (x≠(0:Int))) (((.i64:IntKind)=.i64∧ae (decide (x≠(1:Int))) (Q (.func (.func 265) [] [.aK [.int .i64 (6:Int)] 0])) (Q (.func (.func 266) [] [.aK [.int .i64 d,.int .i64 x,.int .u64 (0:Int),.str ([])] 0])))) (Q (.func (.func 266) [] [.aK [.int .i64 d,.int .i64 x,.int .u64 (0:Int),.str ([])] 0])))) (((.i64:IntKind)=.i64∧ae (decide (d=(3:Int))) ((fg x∧ae ((!(se x))) (Q (.func (.func 265) [] [.aK [.int .i64 (6:Int)] 0])) (Q (.func (.func 266) [] [.aK [.int .i64 d,.int .i64 (0:Int),.int .u64 (Ck x),.str ([])] 0])))) (((.i64:IntKind)=.i64∧ae (decide (d=(4:Int))) (Q (.func (.func 266) [] [.aK [.int .i64 d,.int .i64 (0:Int),.int .u64 (0:Int),.str (qN (IntKind.u64.wrap x) 8)] 0])) (((.i64:IntKind)=.i64∧ae (decide (d=(5:Int))) ((fg x∧Q (.func (.func 266) [] [.aK [.int .i64 d,.int .i64 (0:Int),.int .u64 (0:Int),.str (ij x)] 0]))) (Q (.func (.func 266) [] [.aK [.int .i64 d,.int .i64 x,.int .u64 (0:Int),.str ([])] 0])))))))))):=by kernel_rfl
def Mc [Env] (vs:List V) (σ:St) (k:ah):Prop:=
 match vs with
 | [.int .i64 x,.int .i64 d]=>((fg x∧(d=1∨d=2∨d=3∨d=4∨d=5)))∧vi (il x d) (fZ x d) σ k
 | _=>False
def Cm [Env]:=kS 255 Mc HI
def za:Nat→List Nat:=(fun _=>[])
theorem SE [Env] (A:Nat→List SV→Prop) (Q:V→Prop) (d:Int):WE Tryz.prog 254 Tryz.f254 Cm 0 za A (fun v _=>Q v) [.int .i64 (0:Int),.int .i64 d] Go.Ev.start=
  (((.i64:IntKind)=.i64∧ae (decide (d=(5:Int))) (Q (.func (.func 266) [] [.aK [.int .i64 d,.int .i64 (0:Int),.int .u64 (0:Int),.str ([102,97,108,115,101])] 0])) (((fg (0:Int)∧(d=1∨d=2∨d=3∨d=4∨d=5))∧((il (0:Int) d=0→Q (.func (.func 266) [] [.aK [.int .i64 ((fZ (0:Int) d).f0),.int .i64 ((fZ (0:Int) d).f1),.int .u64 ((fZ (0:Int) d).f2),.str ((fZ (0:Int) d).f3)] 0]))∧(il (0:Int) d≠0→Q (.func (.func 265) [] [.aK [.int .i64 (il (0:Int) d)] 0]))))))):=by kernel_rfl
theorem SF [Env] (A:Nat→List SV→Prop) (Q:V→Prop) (d:Int):WE Tryz.prog 254 Tryz.f254 Cm 0 za A (fun v _=>Q v) [.int .i64 (1:Int),.int .i64 d] Go.Ev.start=
  (((.i64:IntKind)=.i64∧ae (decide (d=(5:Int))) (Q (.func (.func 266) [] [.aK [.int .i64 d,.int .i64 (0:Int),.int .u64 (0:Int),.str ([116,114,117,101])] 0])) (((fg (1:Int)∧(d=1∨d=2∨d=3∨d=4∨d=5))∧((il (1:Int) d=0→Q (.func (.func 266) [] [.aK [.int .i64 ((fZ (1:Int) d).f0),.int .i64 ((fZ (1:Int) d).f1),.int .u64 ((fZ (1:Int) d).f2),.str ((fZ (1:Int) d).f3)] 0]))∧(il (1:Int) d≠0→Q (.func (.func 265) [] [.aK [.int .i64 (il (1:Int) d)] 0]))))))):=by kernel_rfl
def Md [Env] (vs:List V) (σ:St) (k:ah):Prop:=
 match vs with
 | [.int .i64 x,.int .i64 d]=>(((x=0∨x=1)∧(d=2∨d=3∨d=5)))∧vi ((0:Int)) (mJ x d) σ k
 | _=>False
def HJ [Env]:=kS 254 Md Cm
def Fb:Nat→List Nat:=(fun _=>[])
theorem ZS [Env] (A:Nat→List SV→Prop) (Q:V→Prop) (x d:Int):WE Tryz.prog 256 Tryz.f256 HJ 0 Fb A (fun v _=>Q v) [.int .u64 x,.int .i64 d] Go.Ev.start=
  (((.i64:IntKind)=.i64∧ae (decide (d=(4:Int))) (Q (.func (.func 266) [] [.aK [.int .i64 d,.int .i64 (0:Int),.int .u64 (0:Int),.str (qN x 8)] 0])) ((xZ x∧ae ((!(vW x))) (Q (.func (.func 265) [] [.aK [.int .i64 (6:Int)] 0])) (((fg (lN x)∧(d=1∨d=2∨d=3∨d=4∨d=5))∧((il (lN x) d=0→Q (.func (.func 266) [] [.aK [.int .i64 ((fZ (lN x) d).f0),.int .i64 ((fZ (lN x) d).f1),.int .u64 ((fZ (lN x) d).f2),.str ((fZ (lN x) d).f3)] 0]))∧(il (lN x) d≠0→Q (.func (.func 265) [] [.aK [.int .i64 (il (lN x) d)] 0]))))))))):=by kernel_rfl
def Me [Env] (vs:List V) (σ:St) (k:ah):Prop:=
 match vs with
 | [.int .u64 x,.int .i64 d]=>((xZ x∧(d=1∨d=2∨d=4)))∧vi (pH x d) (nT x d) σ k
 | _=>False
def Cn [Env]:=kS 256 Me HJ
def zd:Nat→List Nat:=(fun i=>match i with | 0=>[1,5,30,31,32] | _=>[])
abbrev SG [Env] (A:Nat→List SV→Prop) (Q:V→Prop) (s:List UInt8) (d:Int):Prop:=
 ((.i64:IntKind)=.i64∧ae (decide (d=(5:Int))) (Q (.func (.func 266) [] [.aK [.int .i64 d,.int .i64 (0:Int),.int .u64 (0:Int),.str s] 0])) (((.i64:IntKind)=.i64∧ae (decide ((((len s:Nat):Int))≠(8:Int))) (Q (.func (.func 265) [] [.aK [.int .i64 (6:Int)] 0])) ((len s≤1099511627776∧(((len s)=(len s)∧1=1)∧A 0 [.val (.int .i64 d),.val (.int .u64 (0:Int)),.row (len s) (du s) 1,.val (.int .i64 (((len s:Nat):Int))),.val (.int .i64 (0:Int))]))))))
theorem ZU [Env] (A:Nat→List SV→Prop) (Q:V→Prop) (s:List UInt8) (d:Int):WE Tryz.prog 257 Tryz.f257 Cn 0 zd A (fun v _=>Q v) [.str s,.int .i64 d] Go.Ev.start=
  (((.i64:IntKind)=.i64∧ae (decide (d=(5:Int))) ((s.length≤64∧ae ((!(fP s.length s))) (Q (.func (.func 265) [] [.aK [.int .i64 (7:Int)] 0])) ((SG A Q s d)))) ((SG A Q s d)))):=by kernel_rfl
theorem ZV [Env] (A:Nat→List SV→Prop) (Q:V→Prop) (t:List UInt8) (d n m i:Int):WL Tryz.prog 257 Tryz.f257 Cn 0 zd A (fun v _=>Q v) 0 [.val (.int .i64 d),.val (.int .u64 n),.row (len t) (du t) 1,.val (.int .i64 m),.val (.int .i64 i)]=
  (((.i64:IntKind)=.i64∧ae (decide (i<m)) (((0≤i∧i<((len t:Nat):Int))∧(i.toNat<len t∧(0≤(8:Int)∧(((len t)=(len t)∧1=1)∧A 0 [.val (.int .i64 d),.val (.int .u64 (IntKind.u64.wrap (BitVec.ofInt IntKind.u64.bits (IntKind.u64.wrap (n*2^min (8:Int).toNat IntKind.u64.bits))||| BitVec.ofInt IntKind.u64.bits (IntKind.u64.wrap (aI t i.toNat))).toNat)),.row (len t) (du t) 1,.val (.int .i64 m),.val (.int .i64 (IntKind.i64.wrap (i+(1:Int))))]))))) (((.i64:IntKind)=.i64∧ae (decide (d=(3:Int))) (((0≤n∧n<18446744073709551616)∧Q (.func (.func 266) [] [.aK [.int .i64 d,.int .i64 (0:Int),.int .u64 (jB n),.str ([])] 0]))) (Q (.func (.func 266) [] [.aK [.int .i64 d,.int .i64 (IntKind.i64.wrap n),.int .u64 (0:Int),.str ([])] 0])))))):=by kernel_rfl
def Mf [Env] (vs:List V) (σ:St) (k:ah):Prop:=
 match vs with
 | [.str x,.int .i64 d]=>((x.length≤64∧(d=2∨d=3∨d=5)))∧vi (lO x d) (ka x d) σ k
 | _=>False
def wL [Env]:=kS 257 Mf Cn
def qR:Nat→List Nat:=(fun i=>match i with | 0=>[0,1,18,19] | _=>[])
theorem ZW [Env] (A:Nat→List SV→Prop) (Q:V→Prop) (s:List UInt8) (d:Int):WE Tryz.prog 258 Tryz.f258 wL 0 qR A (fun v _=>Q v) [.str s,.int .i64 d] Go.Ev.start=
  (((.i64:IntKind)=.i64∧ae (decide (d=(4:Int))) (Q (.func (.func 266) [] [.aK [.int .i64 d,.int .i64 (0:Int),.int .u64 (0:Int),.str s] 0])) (((.i64:IntKind)=.i64∧ae (decide (d=(1:Int))) (A 0 [.val (.str s),.val (.int .i64 d),.val (.agg [.str ([102,97,108,115,101]),.str ([116,114,117,101])]),.val (.int .i64 (0:Int))]) (((.i64:IntKind)=.i64∧ae (decide ((jY s)≠(0:Int))) (Q (.func (.func 265) [] [.aK [.int .i64 (jY s)] 0])) (Q (.func (.func 266) [] [.aK [.int .i64 d,.int .i64 (lL s),.int .u64 (0:Int),.str ([])] 0])))))))):=by kernel_rfl
theorem SH [Env] (A:Nat→List SV→Prop) (Q:V→Prop) (s:List UInt8) (d:Int):WL Tryz.prog 258 Tryz.f258 wL 0 qR A (fun v _=>Q v) 0 [.val (.str s),.val (.int .i64 d),.val (.agg [.str ([102,97,108,115,101]),.str ([116,114,117,101])]),.val (.int .i64 (0:Int))]=
  (((.i64:IntKind)=.i64∧ae (decide ([102,97,108,115,101]=s)) (Q (.func (.func 266) [] [.aK [.int .i64 d,.int .i64 (0:Int),.int .u64 (0:Int),.str ([])] 0])) (A 0 [.val (.str s),.val (.int .i64 d),.val (.agg [.str ([102,97,108,115,101]),.str ([116,114,117,101])]),.val (.int .i64 (1:Int))]))):=by kernel_rfl
theorem SI [Env] (A:Nat→List SV→Prop) (Q:V→Prop) (s:List UInt8) (d:Int):WL Tryz.prog 258 Tryz.f258 wL 0 qR A (fun v _=>Q v) 0 [.val (.str s),.val (.int .i64 d),.val (.agg [.str ([102,97,108,115,101]),.str ([116,114,117,101])]),.val (.int .i64 (1:Int))]=
  (((.i64:IntKind)=.i64∧ae (decide ([116,114,117,101]=s)) (Q (.func (.func 266) [] [.aK [.int .i64 d,.int .i64 (1:Int),.int .u64 (0:Int),.str ([])] 0])) (A 0 [.val (.str s),.val (.int .i64 d),.val (.agg [.str ([102,97,108,115,101]),.str ([116,114,117,101])]),.val (.int .i64 (2:Int))]))):=by kernel_rfl
theorem SJ [Env] (A:Nat→List SV→Prop) (Q:V→Prop) (s:List UInt8) (d:Int):WL Tryz.prog 258 Tryz.f258 wL 0 qR A (fun v _=>Q v) 0 [.val (.str s),.val (.int .i64 d),.val (.agg [.str ([102,97,108,115,101]),.str ([116,114,117,101])]),.val (.int .i64 (2:Int))]=
  (((.i64:IntKind)=.i64∧Q (.func (.func 265) [] [.aK [.int .i64 (7:Int)] 0]))):=by kernel_rfl
def Mg [Env] (vs:List V) (σ:St) (k:ah):Prop:=
 match vs with
 | [.str x,.int .i64 d]=>((x.length≤64∧(d=1∨d=2∨d=4)))∧vi (jO x d) (kl x d) σ k
 | _=>False
def HK [Env]:=kS 258 Mg wL
def Fc:Nat→List Nat:=(fun _=>[])
theorem ZX [Env] (A:Nat→List SV→Prop) (Q:V→Prop) (v:ay) (d:Int):WE Tryz.prog 228 Tryz.f228 HK 0 Fc A (fun v _=>Q v) [ay.enc v,.int .i64 d] Go.Ev.start=
  (((0≤v.f2∧v.f2<18446744073709551616)∧((.i64:IntKind)=.i64∧ae (decide ((cq ⟨v.f0,v.f1,v.f2,v.f3⟩)≠(0:Int))) (Q (.tuple [.agg [.int .i64 (0:Int),.int .i64 (0:Int),.int .u64 (0:Int),.str ([])],.int .i64 (cq ⟨v.f0,v.f1,v.f2,v.f3⟩)])) (((.i64:IntKind)=.i64∧ae (decide (d<(1:Int))) (Q (.tuple [.agg [.int .i64 (0:Int),.int .i64 (0:Int),.int .u64 (0:Int),.str ([])],.int .i64 (5:Int)])) (((.i64:IntKind)=.i64∧ae (decide (d>(5:Int))) (Q (.tuple [.agg [.int .i64 (0:Int),.int .i64 (0:Int),.int .u64 (0:Int),.str ([])],.int .i64 (5:Int)])) (((.i64:IntKind)=.i64∧ae (decide (v.f0=(0:Int))) (Q (.tuple [.agg [.int .i64 v.f0,.int .i64 v.f1,.int .u64 v.f2,.str v.f3],.int .i64 (0:Int)])) (((.i64:IntKind)=.i64∧ae (decide (v.f0=d)) (Q (.tuple [.agg [.int .i64 v.f0,.int .i64 v.f1,.int .u64 v.f2,.str v.f3],.int .i64 (0:Int)])) (ae ((!(lK v.f0 d))) (Q (.tuple [.agg [.int .i64 (0:Int),.int .i64 (0:Int),.int .u64 (0:Int),.str ([])],.int .i64 (5:Int)])) (((.i64:IntKind)=.i64∧ae (decide (v.f0=(1:Int))) ((((v.f1=0∨v.f1=1)∧(d=2∨d=3∨d=5))∧(((0:Int)=0→Q (.tuple [.agg [.int .i64 ((mJ v.f1 d).f0),.int .i64 ((mJ v.f1 d).f1),.int .u64 ((mJ v.f1 d).f2),.str ((mJ v.f1 d).f3)],.int .i64 (0:Int)]))∧((0:Int)≠0→Q (.tuple [.agg [.int .i64 (0:Int),.int .i64 (0:Int),.int .u64 (0:Int),.str ([])],.int .i64 ((0:Int))]))))) (((.i64:IntKind)=.i64∧ae (decide (v.f0=(2:Int))) (((fg v.f1∧(d=1∨d=2∨d=3∨d=4∨d=5))∧((il v.f1 d=0→Q (.tuple [.agg [.int .i64 ((fZ v.f1 d).f0),.int .i64 ((fZ v.f1 d).f1),.int .u64 ((fZ v.f1 d).f2),.str ((fZ v.f1 d).f3)],.int .i64 (0:Int)]))∧(il v.f1 d≠0→Q (.tuple [.agg [.int .i64 (0:Int),.int .i64 (0:Int),.int .u64 (0:Int),.str ([])],.int .i64 (il v.f1 d)]))))) (((.i64:IntKind)=.i64∧ae (decide (v.f0=(3:Int))) (((xZ v.f2∧(d=1∨d=2∨d=4))∧((pH v.f2 d=0→Q (.tuple [.agg [.int .i64 ((nT v.f2 d).f0),.int .i64 ((nT v.f2 d).f1),.int .u64 ((nT v.f2 d).f2),.str ((nT v.f2 d).f3)],.int .i64 (0:Int)]))∧(pH v.f2 d≠0→Q (.tuple [.agg [.int .i64 (0:Int),.int .i64 (0:Int),.int .u64 (0:Int),.str ([])],.int .i64 (pH v.f2 d)]))))) (((.i64:IntKind)=.i64∧ae (decide (v.f0=(4:Int))) (((v.f3.length≤64∧(d=2∨d=3∨d=5))∧((lO v.f3 d=0→Q (.tuple [.agg [.int .i64 ((ka v.f3 d).f0),.int .i64 ((ka v.f3 d).f1),.int .u64 ((ka v.f3 d).f2),.str ((ka v.f3 d).f3)],.int .i64 (0:Int)]))∧(lO v.f3 d≠0→Q (.tuple [.agg [.int .i64 (0:Int),.int .i64 (0:Int),.int .u64 (0:Int),.str ([])],.int .i64 (lO v.f3 d)]))))) (((v.f3.length≤64∧(d=1∨d=2∨d=4))∧((jO v.f3 d=0→Q (.tuple [.agg [.int .i64 ((kl v.f3 d).f0),.int .i64 ((kl v.f3 d).f1),.int .u64 ((kl v.f3 d).f2),.str ((kl v.f3 d).f3)],.int .i64 (0:Int)]))∧(jO v.f3 d≠0→Q (.tuple [.agg [.int .i64 (0:Int),.int .i64 (0:Int),.int .u64 (0:Int),.str ([])],.int .i64 (jO v.f3 d)]))))))))))))))))))))))))):=by kernel_rfl
def Mh [Env] (vs:List V) (σ:St) (k:ah):Prop:=
 match vs with
 | [.agg [.int .i64 a,.int .i64 b,.int .u64 c,.str s],.int .i64 d]=>E8 ⟨a,b,c,s⟩∧k (.tuple [ay.enc (Cl ⟨a,b,c,s⟩ d),.int .i64 (Xz ⟨a,b,c,s⟩ d)]) σ
 | _=>False
def HL [Env]:=kS 228 Mh HK
end Go.Proofs.YtbajncpfmemdgaaGreatDoor
end
section
namespace Go.Proofs.YtbajncpfmemdgaaGreatDoor
open Go Go.Ev Go.IntWalk Go.Ev.Flt
theorem HM {b:Bool} {Y Z:Prop} (y:b=false→Y) (z:b=true→Z):ae (!b) Y Z:=by cases b<;>first | exact y rfl | exact z rfl
theorem rP {a b c e e':Int} {s:List UInt8} {v:ay} (hv:v=⟨a,b,c,s⟩) (he:e'=e):V.tuple [.agg [.int .i64 a,.int .i64 b,.int .u64 c,.str s],.int .i64 e]=.tuple [ay.enc v,.int .i64 e']:=by subst hv;subst he;rfl
theorem Kd (b:Int):fg (lN b):=by
 unfold lN
 split
 ·rename_i h
  obtain⟨_,_,_,_,h1,h2⟩:=Classical.choose_spec h
  exact⟨h1,by omega⟩
 ·exact⟨by decide,by decide⟩
theorem Ke (x:Int):0≤IntKind.u64.wrap x∧IntKind.u64.wrap x<18446744073709551616:=by rw[wrap_u64];omega
theorem Ah {s:List UInt8} {n:Nat} (h:0≤lM s n):IntKind.u64.wrap (BitVec.ofInt IntKind.u64.bits (IntKind.u64.wrap ((lM s n)*2^min (8:Int).toNat IntKind.u64.bits))||| BitVec.ofInt IntKind.u64.bits (IntKind.u64.wrap (aI s n))).toNat=lM s (n+1):=by
 have hb:=qa s n
 obtain⟨x,hx⟩:∃x:Nat,lM s n=x:=⟨(lM s n).toNat,(Int.toNat_of_nonneg h).symm⟩
 obtain⟨y,hy⟩:∃y:Nat,aI s n=y:=⟨(aI s n).toNat,(Int.toNat_of_nonneg hb.1).symm⟩
 have h8:=ZQ x 8 (by decide)
 rw[show((8:Nat):Int)=(8:Int) from rfl] at h8
 have e:IntKind.u64.wrap (aI s n)=((y:Nat):Int):=by rw[wrap_u64,hy];omega
 rw[hx,h8,e,orU (Nat.mod_lt _ (by decide)) (by omega)]
 rw[show x*2^8%18446744073709551616=2^8*(x%72057594037927936) by omega,SC (by omega)]
 unfold lM
 rw[hx,hy]
 omega
theorem ze {s:List UInt8}:∀n,0≤lM s n∧lM s n<18446744073709551616
 | 0=>⟨Int.le_refl _,(by decide:(0:Int)<18446744073709551616)⟩
 | n+1=>by rw[←Ah (ze n).1];exact Ke _
section
variable [Env] [aE] {vs:List V} {σ:St} {k:ah}
omit [aE] in
theorem ZY {v:ay} {e:Int}:dE (.tuple [ay.enc v,.int .i64 e]):=.tuple (bU (.agg (bU (.int _ _) (bU (.int _ _) (bU (.int _ _) (bU (.str _) ig))))) (bU (.int _ _) ig))
omit [Env] [aE] in
theorem ZZ {n:Int} (h:n=0∨n=1):se n=true:=by rcases h with rfl | rfl<;>decide
omit [Env] [aE] in
theorem DE {v:ay} (h:cq v=0):(0≤v.f0∧v.f0≤5)∧(v.f0=1→v.f1=0∨v.f1=1)∧v.f3.length≤64:=by
 refine⟨?_,?_,Ht h⟩
 ·unfold cq at h
  split at h
  ·cases h
  ·omega
 ·intro h1
  unfold cq at h
  split at h
  ·cases h
  ·split at h
   ·cases h
   ·split at h
    ·cases h
    ·omega
omit [Env] [aE] in
theorem Mi {a b:Int}:lK a b=true↔((1≤a∧a≤5)∧(1≤b∧b≤5)∧¬(a=1∧b=4)∧¬(a=4∧b=1)∧¬(a=3∧b=5)∧¬(a=5∧b=3)):=decide_eq_true_iff
end
end Go.Proofs.YtbajncpfmemdgaaGreatDoor
end
section
namespace Go.Proofs.YtbajncpfmemdgaaGreatDoor
open Go Go.Ev Go.IntWalk Go.Ev.Flt
theorem F255:bS Tryz.prog 255 Tryz.f255:=.of (by kernel_rfl) (by kernel_rfl)
theorem F254:bS Tryz.prog 254 Tryz.f254:=.of (by kernel_rfl) (by kernel_rfl)
theorem F256:bS Tryz.prog 256 Tryz.f256:=.of (by kernel_rfl) (by kernel_rfl)
theorem F257:bS Tryz.prog 257 Tryz.f257:=.of (by kernel_rfl) (by kernel_rfl)
theorem F258:bS Tryz.prog 258 Tryz.f258:=.of (by kernel_rfl) (by kernel_rfl)
theorem F228:bS Tryz.prog 228 Tryz.f228:=.of (by kernel_rfl) (by kernel_rfl)
def sf (e:Int) (v:ay) (u:V):Prop:=(e=0∧u=OD v)∨(e≠0∧u=E9 e)
theorem nB {e:Int} {v:ay} {a b c:Int} {s:List UInt8} (he:e=0) (hv:v=⟨a,b,c,s⟩):sf e v (.func (.func 266) [] [.aK [.int .i64 a,.int .i64 b,.int .u64 c,.str s] 0]):=.inl ⟨he,by subst hv;rfl⟩
theorem Co {e:Int} {v:ay} {x:Int} (h0:x≠0) (he:e=x):sf e v (.func (.func 265) [] [.aK [.int .i64 x] 0]):=.inr ⟨by rw[he];exact h0,by rw[he];rfl⟩
theorem SK {e e':Int} {v v':ay} (he:e=e') (hv:v=v'):(e'=0→sf e v (.func (.func 266) [] [.aK [.int .i64 v'.f0,.int .i64 v'.f1,.int .u64 v'.f2,.str v'.f3] 0]))∧(e'≠0→sf e v (.func (.func 265) [] [.aK [.int .i64 e'] 0])):=by
 subst he;subst hv
 exact⟨fun h=>.inl ⟨h,rfl⟩,fun h=>.inr ⟨h,rfl⟩⟩
theorem Kf {e e':Int} {v v':ay} (he:e=e') (hv:v=v') (hb:e≠0→v=mX):(e=0→V.tuple [.agg [.int .i64 v.f0,.int .i64 v.f1,.int .u64 v.f2,.str v.f3],.int .i64 (0:Int)]=.tuple [ay.enc v',.int .i64 e'])∧
  (e≠0→V.tuple [.agg [.int .i64 (0:Int),.int .i64 (0:Int),.int .u64 (0:Int),.str ([])],.int .i64 e]=.tuple [ay.enc v',.int .i64 e']):=by
 subst he;subst hv
 exact⟨fun h=>by rw[h];rfl,fun h=>by rw[hb h];rfl⟩
theorem Fe {x d:Int} (h:il x d≠0):fZ x d=mX:=by
 unfold il at h;unfold fZ
 split at h
 ·rename_i h1
  rw[if_pos h1]
  split at h
  ·exact(h rfl).elim
  ·rename_i h2;rw[if_neg h2]
 ·rename_i h1
  rw[if_neg h1]
  split at h
  ·rename_i h2
   rw[if_pos h2]
   split at h
   ·exact(h rfl).elim
   ·rename_i h3;rw[if_neg h3]
  ·exact(h rfl).elim
theorem Mj {x d:Int} (h:pH x d≠0):nT x d=mX:=by
 unfold pH at h;unfold nT
 split at h
 ·exact(h rfl).elim
 ·rename_i h1
  rw[if_neg h1]
  split at h
  ·rename_i h2;rw[if_pos h2];exact Fe h
  ·rename_i h2;rw[if_neg h2]
theorem Kg {s:List UInt8} {d:Int} (h:lO s d≠0):ka s d=mX:=by
 unfold lO at h;unfold ka
 split at h
 ·rename_i h1
  rw[if_pos h1]
  split at h
  ·exact(h rfl).elim
  ·rename_i h2;rw[if_neg h2]
 ·rename_i h1
  rw[if_neg h1]
  split at h
  ·exact(h rfl).elim
  ·rename_i h2;rw[if_neg h2]
theorem Mk {s:List UInt8} {d:Int} (h:jO s d≠0):kl s d=mX:=by
 unfold jO at h;unfold kl
 split at h
 ·exact(h rfl).elim
 ·rename_i h1
  rw[if_neg h1]
  split at h
  ·rename_i h2
   rw[if_pos h2]
   split at h
   ·exact(h rfl).elim
   ·rename_i h3;rw[if_neg (fun c=>h3 (.inl c)),if_neg (fun c=>h3 (.inr c))]
  ·rename_i h2;rw[if_neg h2,if_neg h]
def SL (s:List UInt8) (d:Int):Nat→List SV→Prop
 | 0,ss=>∃i:Nat,i≤8∧ss=[.val (.int .i64 d),.val (.int .u64 (lM s i)),.row (len s) (du s) 1,.val (.int .i64 ((8:Nat):Int)),.val (.int .i64 ((i:Nat):Int))]
 | _,_=>False
def Z0 (s:List UInt8) (d:Int):Nat→List SV→Prop
 | 0,ss=>∃i:Nat,i≤2∧(0<i→s≠qQ)∧(1<i→s≠vh)∧ss=[.val (.str s),.val (.int .i64 d),.val (.agg [.str [102,97,108,115,101],.str [116,114,117,101]]),.val (.int .i64 ((i:Nat):Int))]
 | _,_=>False
section
variable [Env] [aE] {vs:List V} {σ:St} {k:ah}
omit [aE] in
theorem ag.Z1 {f:FuncId} {A:V→Prop} (hc:∀v∈vs,Go.Ev.Clean v) (hA:∀v,A v→Go.Ev.Clean v) (h:ag Tryz.prog f vs (fun v _=>A v) Go.Ev.start) (hk:∀v,A v→k v σ):ag Tryz.prog f vs k σ:=
 (ag.AO (Q:=A) hc (h.mono fun v _ hv=>⟨v,.clean (hA v hv),hv⟩)).mono fun v τ ⟨h1,h2⟩=>by subst h2;exact hk v h1
omit [aE] in
theorem HN {e:Int} {v:ay}:∀u,sf e v u→Go.Ev.Clean u:=fun u hu=>by
 rcases hu with ⟨_,rfl⟩ | ⟨_,rfl⟩
 ·exact Go.Ev.Clean.fn cw (aw (Go.Ev.Clean.aK (ay.clean v)) cw)
 ·exact Go.Ev.Clean.fn cw (aw (Go.Ev.Clean.aK (aw (Go.Ev.Clean.int _ _) cw)) cw)
omit [aE] in
theorem qS {f:FuncId} {e:Int} {v:ay} (hc:∀v∈vs,Go.Ev.Clean v) (h:ag Tryz.prog f vs (fun u _=>sf e v u) Go.Ev.start) (hk:vi e v σ k):ag Tryz.prog f vs k σ:=
 ag.Z1 hc HN h fun u hu=>by
  rcases hu with ⟨h,rfl⟩ | ⟨h,rfl⟩
  ·exact hk.1 h
  ·exact hk.2 h
theorem PL (h:Mc vs σ k):ag Tryz.prog 255 vs k σ:=by
 unfold Mc at h
 split at h
 ·rename_i x d
  obtain⟨⟨hx,hd⟩,h⟩:=h
  refine qS (aw (Go.Ev.Clean.int _ _) (aw (Go.Ev.Clean.int _ _) cw)) (F255.flat (live:=Fa) (call:=HI) (n₀:=0) (σ:=Go.Ev.start) (fun h=>E7 h) rfl (by kernel_rfl) ?_) h
  rw[ZR]
  unfold il fZ
  refine⟨rfl,av (fun h1=>⟨rfl,av (fun h2=>⟨rfl,av (fun h3=>Co (by decide) ?_) fun h3=>nB ?_ ?_⟩) fun h2=>nB ?_ ?_⟩) fun h1=>⟨rfl,av (fun h2=>⟨hx,HM (fun h3=>Co (by decide) ?_) fun h3=>nB ?_ ?_⟩) fun h2=>⟨rfl,av (fun h3=>nB ?_ ?_) fun h3=>⟨rfl,av (fun h4=>⟨hx,nB ?_ ?_⟩) fun h4=>nB ?_ ?_⟩⟩⟩⟩
  ·rw[if_pos h1,if_neg (by omega)]
  ·rw[if_pos h1,if_pos (by omega)]
  ·rw[if_pos h1,if_pos (by omega)]
  ·rw[if_pos h1,if_pos (by omega)]
  ·rw[if_pos h1,if_pos (by omega)]
  ·rw[if_neg h1,if_pos h2,if_neg (by rw[h3];decide)]
  ·rw[if_neg h1,if_pos h2,if_pos h3]
  ·rw[if_neg h1,if_pos h2,if_pos h3]
  ·rw[if_neg h1,if_neg h2]
  ·rw[if_neg h1,if_neg h2,if_pos h3]
  ·rw[if_neg h1,if_neg h2]
  ·rw[if_neg h1,if_neg h2,if_neg h3,if_pos h4]
  ·rw[if_neg h1,if_neg h2]
  ·rw[if_neg h1,if_neg h2,if_neg h3,if_neg h4]
 ·exact h.elim
theorem Ff:∀ {f:FuncId} {vs:List V} {σ:St} {k:ah},Cm f vs σ k→ag Tryz.prog f vs k σ:=fun h=>aR PL E7 h
theorem PM (h:Md vs σ k):ag Tryz.prog 254 vs k σ:=by
 unfold Md at h
 split at h
 ·rename_i x d
  obtain⟨⟨hx,hd⟩,h⟩:=h
  refine qS (aw (Go.Ev.Clean.int _ _) (aw (Go.Ev.Clean.int _ _) cw)) (F254.flat (live:=za) (call:=Cm) (n₀:=0) (σ:=Go.Ev.start) (fun h=>Ff h) rfl (by kernel_rfl) ?_) h
  have e0:∀x:Int,(x=0∨x=1)→d≠5→(0:Int)=il x d:=fun x hx h1=>by
   unfold il
   rw[if_neg (by omega)]
   split
   ·rw[if_pos (ZZ hx)]
   ·rfl
  have e1:∀x:Int,d≠5→mJ x d=fZ x d:=fun x h1=>by unfold mJ;rw[if_neg h1]
  rcases hx with rfl | rfl
  ·rw[SE]
   refine⟨rfl,av (fun h1=>nB rfl ?_) fun h1=>⟨⟨⟨by decide,by decide⟩,by omega⟩,SK (e0 0 (.inl rfl) h1) (e1 0 h1)⟩⟩
   unfold mJ;rw[if_pos h1];rfl
  ·rw[SF]
   refine⟨rfl,av (fun h1=>nB rfl ?_) fun h1=>⟨⟨⟨by decide,by decide⟩,by omega⟩,SK (e0 1 (.inr rfl) h1) (e1 1 h1)⟩⟩
   unfold mJ;rw[if_pos h1];rfl
 ·exact h.elim
theorem Fg:∀ {f:FuncId} {vs:List V} {σ:St} {k:ah},HJ f vs σ k→ag Tryz.prog f vs k σ:=fun h=>aR PM Ff h
theorem PN (h:Me vs σ k):ag Tryz.prog 256 vs k σ:=by
 unfold Me at h
 split at h
 ·rename_i x d
  obtain⟨⟨hx,hd⟩,h⟩:=h
  refine qS (aw (Go.Ev.Clean.int _ _) (aw (Go.Ev.Clean.int _ _) cw)) (F256.flat (live:=Fb) (call:=HJ) (n₀:=0) (σ:=Go.Ev.start) (fun h=>Fg h) rfl (by kernel_rfl) ?_) h
  rw[ZS]
  unfold pH nT
  refine⟨rfl,av (fun h1=>nB ?_ ?_) fun h1=>⟨hx,HM (fun h3=>Co (by decide) ?_) fun h3=>⟨⟨Kd x,by omega⟩,SK ?_ ?_⟩⟩⟩
  ·rw[if_pos h1]
  ·rw[if_pos h1]
  ·rw[if_neg h1,if_neg (by rw[h3];decide)]
  ·rw[if_neg h1,if_pos h3]
  ·rw[if_neg h1,if_pos h3]
 ·exact h.elim
theorem Fh:∀ {f:FuncId} {vs:List V} {σ:St} {k:ah},Cn f vs σ k→ag Tryz.prog f vs k σ:=fun h=>aR PN Fg h
theorem PO (h:Mf vs σ k):ag Tryz.prog 257 vs k σ:=by
 unfold Mf at h
 split at h
 ·rename_i s d
  obtain⟨⟨hx,hd⟩,h⟩:=h
  refine qS (aw (Go.Ev.Clean.str _) (aw (Go.Ev.Clean.int _ _) cw)) (F257.cG (live:=zd) (call:=Cn) (n₀:=0) (σ:=Go.Ev.start) (fun h=>Fh h) rfl 1 (by kernel_rfl) Nat.lt_wfRel.wf (fun _ ss=>8-cF ss) (fun j ss=>(d≠5∧s.length=8)∧SL s d j ss) ?_ ?_ ?_) h
  ·intro k ss hI
   cases k with
   | zero=>obtain⟨_,i,_,rfl⟩:=hI;exact aF (aF (J7 (aF (aF bW))))
   | succ k=>exact hI.2.elim
  ·rw[ZU];unfold SG;rw[hL]
   unfold ka lO
   have fin:d≠5→s.length=8→(d≠5∧s.length=8)∧SL s d 0 [.val (.int .i64 d),.val (.int .u64 (0:Int)),.row s.length (du s) 1,.val (.int .i64 ((s.length:Nat):Int)),.val (.int .i64 (0:Int))]:=fun h1 h2=>⟨⟨h1,h2⟩,0,by decide,by rw[hL,h2];rfl⟩
   have no:d≠5→s.length≠8→sf (if d=5 then(if fP s.length s=true then 0 else 7) else if s.length=8 then 0 else 6) (if d=5 then(if fP s.length s=true then⟨d,0,0,s⟩ else mX) else if s.length=8 then(if d=3 then⟨d,0,jB (lM s 8),[]⟩ else⟨d,IntKind.i64.wrap (lM s 8),0,[]⟩) else mX) (.func (.func 265) [] [.aK [.int .i64 (6:Int)] 0]):=fun h1 h2=>Co (by decide) (by rw[if_neg h1,if_neg h2])
   repeat' first
    | exact fin (by omega) (by omega)
    | exact no (by omega) (by omega)
    | exact hx
    | omega
    | refine⟨rfl,av (fun _=>?_) (fun _=>?_)⟩
    | refine HM (fun _=>?_) (fun _=>?_)
    | exact Co (by decide) (by rw[if_pos (by omega),if_neg (by simp only[*];decide)])
    | exact nB (by rw[if_pos (by omega),if_pos (by assumption)]) (by rw[if_pos (by omega),if_pos (by assumption)])
    | exact⟨rfl,rfl⟩
    | refine⟨?_,?_⟩
  ·intro k hk ss hI
   obtain rfl:k=0:=by omega
   obtain⟨⟨Kh,h8⟩,i,hi,rfl⟩:=hI
   rw[ZV,hL]
   refine⟨rfl,av (fun h1=>⟨⟨by omega,by omega⟩,by omega,by decide,⟨rfl,rfl⟩,⟨⟨Kh,h8⟩,i+1,by omega,?_⟩,?_⟩) fun h1=>?_⟩
   ·rw[eu,Ah (ze i).1,i64_in ((i:Int)+1) (by omega),hL];rfl
   ·show 8-(IntKind.i64.wrap (((i:Nat):Int)+1)).toNat<8-(((i:Nat):Int)).toNat
    rw[i64_in ((i:Int)+1) (by omega)];omega
   ·obtain rfl:i=8:=by omega
    unfold ka lO
    refine⟨rfl,av (fun h3=>⟨ze 8,nB ?_ ?_⟩) fun h3=>nB ?_ ?_⟩
    ·rw[if_neg Kh,if_pos h8]
    ·rw[if_neg Kh,if_pos h8,if_pos h3]
    ·rw[if_neg Kh,if_pos h8]
    ·rw[if_neg Kh,if_pos h8,if_neg h3]
 ·exact h.elim
theorem Fi:∀ {f:FuncId} {vs:List V} {σ:St} {k:ah},wL f vs σ k→ag Tryz.prog f vs k σ:=fun h=>aR PO Fh h
theorem PQ (h:Mg vs σ k):ag Tryz.prog 258 vs k σ:=by
 unfold Mg at h
 split at h
 ·rename_i s d
  obtain⟨⟨hx,hd⟩,h⟩:=h
  refine qS (aw (Go.Ev.Clean.str _) (aw (Go.Ev.Clean.int _ _) cw)) (F258.cG (live:=qR) (call:=wL) (n₀:=0) (σ:=Go.Ev.start) (fun h=>Fi h) rfl 1 (by kernel_rfl) Nat.lt_wfRel.wf (fun _ ss=>8-cF ss) (fun j ss=>d=1∧Z0 s d j ss) ?_ ?_ ?_) h
  ·intro k ss hI
   cases k with
   | zero=>obtain⟨_,i,_,_,_,rfl⟩:=hI;exact oL (aF (ax (Go.Ev.Clean.agg (aw (Go.Ev.Clean.str _) (aw (Go.Ev.Clean.str _) cw))) (aF bW)))
   | succ k=>exact hI.2.elim
  ·rw[ZW]
   refine⟨rfl,av (fun h1=>nB ?_ ?_) fun h1=>⟨rfl,av (fun h2=>⟨h2,0,by decide,fun h=>absurd h (by decide),fun h=>absurd h (by decide),rfl⟩) fun h2=>⟨rfl,av (fun h3=>Co h3 ?_) fun h3=>nB ?_ ?_⟩⟩⟩
   ·unfold jO;rw[if_pos h1]
   ·unfold kl;rw[if_pos h1]
   ·unfold jO;rw[if_neg h1,if_neg h2]
   ·unfold jO;rw[if_neg h1,if_neg h2];exact Classical.not_not.mp h3
   ·unfold kl;rw[if_neg h1,if_neg h2,if_pos (Classical.not_not.mp h3)]
  ·intro k hk ss hI
   obtain rfl:k=0:=by omega
   obtain⟨h1,i,hi,hf,ht,rfl⟩:=hI
   have h4:¬d=4:=by omega
   match i,hi,hf,ht with
   | 0,_,hf,ht=>
    refine(SH _ _ s d).mpr ⟨rfl,av (fun h2=>nB ?_ ?_) fun h2=>⟨⟨h1,1,by decide,fun _ c=>h2 c.symm,fun c=>absurd c (by decide),rfl⟩,(by show(8-1:Nat)<8-0;decide)⟩⟩
    ·unfold jO;rw[if_neg h4,if_pos h1,if_pos (.inr h2.symm)]
    ·unfold kl;rw[if_neg h4,if_pos h1,if_neg (by rw[←h2];decide),if_pos (show s=qQ from h2.symm)]
   | 1,_,hf,ht=>
    refine(SI _ _ s d).mpr ⟨rfl,av (fun h2=>nB ?_ ?_) fun h2=>⟨⟨h1,2,by decide,fun _=>hf (by decide),fun _ c=>h2 c.symm,rfl⟩,(by show(8-2:Nat)<8-1;decide)⟩⟩
    ·unfold jO;rw[if_neg h4,if_pos h1,if_pos (.inl h2.symm)]
    ·unfold kl;rw[if_neg h4,if_pos h1,if_pos (show s=vh from h2.symm)]
   | 2,_,hf,ht=>
    refine(SJ _ _ s d).mpr ⟨rfl,Co (by decide) ?_⟩
    unfold jO;rw[if_neg h4,if_pos h1,if_neg (fun c:s=vh∨s=qQ=>c.elim (ht (by decide)) (hf (by decide)))]
   | n+3,hi,_,_=>omega
 ·exact h.elim
theorem Fj:∀ {f:FuncId} {vs:List V} {σ:St} {k:ah},HK f vs σ k→ag Tryz.prog f vs k σ:=fun h=>aR PQ Fi h
theorem PR (h:Mh vs σ k):ag Tryz.prog 228 vs k σ:=by
 unfold Mh at h
 split at h
 ·rename_i a b c s d
  obtain⟨hv,h⟩:=h
  generalize hV:(⟨a,b,c,s⟩:ay)=v at *
  rw[show(V.agg [.int .i64 a,.int .i64 b,.int .u64 c,.str s])=ay.enc v by rw[←hV];rfl]
  refine ag.eJ (aA (ay.aG v) (aA (Go.Ev.Clean.int _ _) bm)) ZY (F228.flat (live:=Fc) (call:=HK) (n₀:=0) (σ:=Go.Ev.start) (fun h=>Fj h) rfl (by kernel_rfl) ?_) h
  rw[ZX]
  unfold Cl Xz
  refine⟨hv.1,rfl,av (fun h1=>rP ?_ ?_) fun h1=>?_⟩
  ·rw[if_pos (show cq v≠0 from h1)];rfl
  ·rw[if_pos (show cq v≠0 from h1)]
  ·replace h1:¬cq v≠0:=h1
   rw[if_neg h1,if_neg h1]
   obtain⟨k1,k2,k3⟩:=DE (Classical.not_not.mp h1)
   refine⟨rfl,av (fun h2=>rP ?_ ?_) fun h2=>⟨rfl,av (fun h3=>rP ?_ ?_) fun h3=>?_⟩⟩
   ·rw[if_pos (.inl h2)];rfl
   ·rw[if_pos (.inl h2)]
   ·rw[if_pos (.inr h3)];rfl
   ·rw[if_pos (.inr h3)]
   ·have hd:¬(d<1∨d>5):=by omega
    rw[if_neg hd,if_neg hd]
    refine⟨rfl,av (fun h4=>rP ?_ ?_) fun h4=>⟨rfl,av (fun h5=>rP ?_ ?_) fun h5=>?_⟩⟩
    ·rw[if_pos (.inl h4)]
    ·rw[if_pos (.inl h4)]
    ·rw[if_pos (.inr h5)]
    ·rw[if_pos (.inr h5)]
    ·have XA:¬(v.f0=0∨v.f0=d):=by omega
     rw[if_neg XA,if_neg XA]
     refine HM (fun h6=>rP ?_ ?_) fun h6=>?_
     ·rw[if_pos h6];rfl
     ·rw[if_pos h6]
     ·have hc:=Mi.mp h6
      have XB:¬lK v.f0 d=false:=by rw[h6];decide
      rw[if_neg XB,if_neg XB]
      refine⟨rfl,av (fun h7=>⟨⟨k2 h7,by omega⟩,?_⟩) fun h7=>⟨rfl,av (fun h8=>⟨⟨hv.2,by omega⟩,?_⟩) fun h8=>⟨rfl,av (fun h9=>⟨⟨hv.1,by omega⟩,?_⟩) fun h9=>⟨rfl,av (fun pe=>⟨⟨k3,by omega⟩,?_⟩) fun pe=>⟨⟨k3,by omega⟩,?_⟩⟩⟩⟩⟩
      ·rw[if_pos h7,if_pos h7];exact Kf rfl rfl fun h=>(h rfl).elim
      ·rw[if_neg h7,if_neg h7,if_pos h8,if_pos h8];exact Kf rfl rfl Fe
      ·rw[if_neg h7,if_neg h7,if_neg h8,if_neg h8,if_pos h9,if_pos h9];exact Kf rfl rfl Mj
      ·rw[if_neg h7,if_neg h7,if_neg h8,if_neg h8,if_neg h9,if_neg h9,if_pos pe,if_pos pe];exact Kf rfl rfl Kg
      ·rw[if_neg h7,if_neg h7,if_neg h8,if_neg h8,if_neg h9,if_neg h9,if_neg pe,if_neg pe];exact Kf rfl rfl Mk
 ·exact h.elim
theorem Fk:∀ {f:FuncId} {vs:List V} {σ:St} {k:ah},HL f vs σ k→ag Tryz.prog f vs k σ:=fun h=>aR PR Fj h
end
end Go.Proofs.YtbajncpfmemdgaaGreatDoor
end
section
namespace Go.Proofs.YtbajncpfmemdgaaGreatDoor
open Go Go.Ev
noncomputable def vj (q:Nat→List UInt8):Nat→Bool
 | 0=>true
 | n+1=>vj q n&&(decide (n=0)|| !(Op.bytesLess (q n) (q (n-1))||q n==q (n-1)))
noncomputable def cr (l:List aa):Int:=
 if l.length>16 then 2 else if cZ (fun i=>bB (l.getD i default)) l.length≠0 then cZ (fun i=>bB (l.getD i default)) l.length
 else if vj (fun i=>(l.getD i default).f0) l.length=true then 0 else 12
noncomputable def bh (l:List aa) (s:List UInt8):Int:=cb s (fun i=>(l.getD i default).f0) l.length
def Ki:Nat→List Nat:=(fun _=>[])
theorem e83 [Env] (A:Nat→List SV→Prop) (Q:V→Prop) (e:aa) (s:List UInt8):WE Tryz.prog 83 Tryz.f83 HL 0 Ki A (fun v _=>Q v) [aa.enc e,.aK [.str s] 0] Go.Ev.start=
  (ae (decide (e.f0=s)) (Q (.bool true)) (Q (.bool false))):=by kernel_rfl
def XC [Env] (vs:List V) (σ:St) (k:ah):Prop:=
 ∃(e:aa) (s:List UInt8),vs=[aa.enc e,.aK [.str s] 0]∧k (.bool (decide (e.f0=s))) σ
def Cp [Env]:=kS 83 XC HL
def Cq:Nat→List Nat:=(fun i=>match i with | 0=>[0,1,7,8] | _=>[])
theorem OE [Env] (A:Nat→List SV→Prop) (Q:V→Prop) (l:List aa) (s:List UInt8):WE Tryz.prog 82 Tryz.f82 Cp 0 Cq A (fun v _=>Q v) [af aa.enc 3 l,.func (.func 83) [] [.aK [.str s] 0]] Go.Ev.start=
  (A 0 [.val (af aa.enc 3 l),.val (.func (.func 83) [] [.aK [.str s] 0]),.val (.int .i64 (((l.length:Nat):Int))),.val (.int .i64 (0:Int))]):=by kernel_rfl
theorem r82 [Env] (A:Nat→List SV→Prop) (Q:V→Prop) (l:List aa) (s:List UInt8) (m i:Int):WL Tryz.prog 82 Tryz.f82 Cp 0 Cq A (fun v _=>Q v) 0 [.val (af aa.enc 3 l),.val (.func (.func 83) [] [.aK [.str s] 0]),.val (.int .i64 m),.val (.int .i64 i)]=
  (((.i64:IntKind)=.i64∧ae (decide (i<m)) (((0≤i∧i<((l.length:Nat):Int))∧(∃(XD:aa) (XE:List UInt8),[aa.enc (l.getD i.toNat default),.aK [.str s] 0]=[aa.enc XD,.aK [.str XE] 0]∧ae ((decide (XD.f0=XE))) (Q (.int .i64 i)) (A 0 [.val (af aa.enc 3 l),.val (.func (.func 83) [] [.aK [.str s] 0]),.val (.int .i64 m),.val (.int .i64 (IntKind.i64.wrap (i+(1:Int))))])))) (Q (.int .i64 (-1:Int))))):=by kernel_rfl
def XF [Env] (vs:List V) (σ:St) (k:ah):Prop:=
 ∃(l:List aa) (s:List UInt8),bn σ vs [af aa.enc 3 l,.func (.func 83) [] [.aK [.str s] 0]]∧l.length≤1000000∧k (.int .i64 (bh l s)) σ
def HO [Env]:=kS 82 XF Cp
def Kj:Nat→List Nat:=(fun _=>[])
theorem e40 [Env] (A:Nat→List SV→Prop) (Q:V→Prop) (l:List aa) (s:List UInt8):WE Tryz.prog 40 Tryz.f40 HO 0 Kj A (fun v _=>Q v) [af aa.enc 3 l,.str s] Go.Ev.start=
  ((∃(SM:List aa) (XG:List UInt8),bn ⟨(St.new Go.Ev.start 0 (.cells 1 [] (an [.str s] .leaf 0) true false)).heap,1⟩ [af aa.enc 3 l,.func (.func 83) [] [.ptr 0 0]] [af aa.enc 3 SM,.func (.func 83) [] [.aK [.str XG] 0]]∧SM.length≤1000000∧Q (.int .i64 (bh SM XG)))):=by kernel_rfl
def XH [Env] (vs:List V) (σ:St) (k:ah):Prop:=
 ∃(l:List aa) (s:List UInt8),vs=[af aa.enc 3 l,.str s]∧l.length≤1000000∧k (.int .i64 (bh l s)) σ
def zg [Env]:=kS 40 XH HO
def x8:Nat→List Nat:=(fun i=>match i with | 0=>[0,10,11,12] | 1=>[0,23,24] | _=>[])
theorem e38 [Env] (A:Nat→List SV→Prop) (Q:V→Prop) (l:List aa):WE Tryz.prog 38 Tryz.f38 zg 0 x8 A (fun v _=>Q v) [af aa.enc 3 l] Go.Ev.start=
  (((.i64:IntKind)=.i64∧ae (decide ((((l.length:Nat):Int))>(16:Int))) (Q (.int .i64 (2:Int))) (A 0 [.val (af aa.enc 3 l),.val (af aa.enc 3 l),.val (.int .i64 (((l.length:Nat):Int))),.val (.int .i64 (0:Int))]))):=by kernel_rfl
theorem Z2 [Env] (A:Nat→List SV→Prop) (Q:V→Prop) (l:List aa) (m i:Int):WL Tryz.prog 38 Tryz.f38 zg 0 x8 A (fun v _=>Q v) 0 [.val (af aa.enc 3 l),.val (af aa.enc 3 l),.val (.int .i64 m),.val (.int .i64 i)]=
  (((.i64:IntKind)=.i64∧ae (decide (i<m)) (((0≤i∧i<((l.length:Nat):Int))∧(∃OG:aa,[.agg [.str ((l.getD i.toNat default).f0),.int .i64 ((l.getD i.toNat default).f1),af aj.enc 7 ((l.getD i.toNat default).f2)]]=[aa.enc OG]∧ie OG∧((.i64:IntKind)=.i64∧ae (decide ((bB OG)≠(0:Int))) (Q (.int .i64 (bB OG))) (A 0 [.val (af aa.enc 3 l),.val (af aa.enc 3 l),.val (.int .i64 m),.val (.int .i64 (IntKind.i64.wrap (i+(1:Int))))]))))) (A 1 [.val (af aa.enc 3 l),.val (.int .i64 (((l.length:Nat):Int))),.val (.int .i64 (0:Int))]))):=by kernel_rfl
theorem Z3 [Env] (A:Nat→List SV→Prop) (Q:V→Prop) (l:List aa) (m i:Int):WL Tryz.prog 38 Tryz.f38 zg 0 x8 A (fun v _=>Q v) 1 [.val (af aa.enc 3 l),.val (.int .i64 m),.val (.int .i64 i)]=
  (((.i64:IntKind)=.i64∧ae (decide (i<m)) (((.i64:IntKind)=.i64∧ae (decide (i>(0:Int))) (((0≤i∧i<((l.length:Nat):Int))∧((0≤(IntKind.i64.wrap (i-(1:Int)))∧(IntKind.i64.wrap (i-(1:Int)))<((l.length:Nat):Int))∧ae ((Op.bytesLess ((l.getD i.toNat default).f0) ((l.getD (IntKind.i64.wrap (i-(1:Int))).toNat default).f0)||((l.getD i.toNat default).f0)==((l.getD (IntKind.i64.wrap (i-(1:Int))).toNat default).f0))) (Q (.int .i64 (12:Int))) (A 1 [.val (af aa.enc 3 l),.val (.int .i64 m),.val (.int .i64 (IntKind.i64.wrap (i+(1:Int))))])))) (A 1 [.val (af aa.enc 3 l),.val (.int .i64 m),.val (.int .i64 (IntKind.i64.wrap (i+(1:Int))))]))) (Q (.int .i64 (0:Int))))):=by kernel_rfl
def XI [Env] (vs:List V) (σ:St) (k:ah):Prop:=
 ∃l:List aa,vs=[af aa.enc 3 l]∧(∀t∈l,ie t)∧k (.int .i64 (cr l)) σ
def HP [Env]:=kS 38 XI zg
end Go.Proofs.YtbajncpfmemdgaaGreatDoor
end
section
namespace Go.Proofs.YtbajncpfmemdgaaGreatDoor
open Go Go.Ev
def Fl:Nat→List Nat:=(fun _=>[])
theorem Z4 [Env] (A:Nat→List SV→Prop) (Q:V→Prop) (x y:ay):WE Tryz.prog 212 Tryz.f212 HP 0 Fl A (fun v _=>Q v) [ay.enc x,ay.enc y] Go.Ev.start=
  (((.i64:IntKind)=.i64∧ae (decide (x.f0=y.f0)) (((.i64:IntKind)=.i64∧ae (decide (x.f1=y.f1)) (((.u64:IntKind)=.u64∧ae (decide (x.f2=y.f2)) (ae (decide (x.f3=y.f3)) (Q (.bool true)) (Q (.bool false))) (Q (.bool false)))) (Q (.bool false)))) (Q (.bool false)))):=by kernel_rfl
def SN [Env] (vs:List V) (σ:St) (k:ah):Prop:=
 ∃x y:ay,vs=[ay.enc x,ay.enc y]∧∀b:Bool,(b=true↔x=y)→k (.bool b) σ
def wM [Env]:=kS 212 SN HP
def qT:Nat→List Nat:=(fun _=>[])
abbrev XJ [Env] (A:Nat→List SV→Prop) (Q:V→Prop) (a b:List UInt8) (c d:Int) (u v:ay):Prop:=
 (ae ((false==false)==true) (ae ((false==false)==true) (ae ((false==false)==true) ((∃b0 b1:ay,[.tuple [],.agg [.int .i64 v.f0,.int .i64 v.f1,.int .u64 v.f2,.str v.f3]]=[ay.enc b0,ay.enc b1]∧∀b2:Bool,(b2=true↔b0=b1)→ae (false==false) (Q (.bool b2)) (Q (.bool false)))) (ae (false==false) (Q (.tuple [])) (Q (.bool false)))) (ae ((false==false)==true) ((∃b3 b4:ay,[.tuple [],.tuple []]=[ay.enc b3,ay.enc b4]∧∀b5:Bool,(b5=true↔b3=b4)→ae (false==false) (Q (.bool b5)) (Q (.bool false)))) (ae (false==false) (Q (.tuple [])) (Q (.bool false))))) (ae ((false==false)==true) False (ae ((false==false)==true) ((∃b6 b7:ay,[.tuple [],.tuple []]=[ay.enc b6,ay.enc b7]∧∀b8:Bool,(b8=true↔b6=b7)→ae (false==false) (Q (.bool b8)) (Q (.bool false)))) (ae (false==false) (Q (.tuple [])) (Q (.bool false))))))
abbrev XK [Env] (A:Nat→List SV→Prop) (Q:V→Prop) (a b:List UInt8) (c d:Int) (u v:ay):Prop:=
 (ae ((true==false)==true) (ae ((true==false)==true) (ae ((true==false)==true) ((∃b0 b1:ay,[.tuple [],.agg [.int .i64 v.f0,.int .i64 v.f1,.int .u64 v.f2,.str v.f3]]=[ay.enc b0,ay.enc b1]∧∀b2:Bool,(b2=true↔b0=b1)→ae (true==false) (Q (.bool b2)) (Q (.bool false)))) (ae (true==false) (Q (.tuple [])) (Q (.bool false)))) (ae ((true==false)==true) ((∃b3 b4:ay,[.tuple [],.tuple []]=[ay.enc b3,ay.enc b4]∧∀b5:Bool,(b5=true↔b3=b4)→ae (true==false) (Q (.bool b5)) (Q (.bool false)))) (ae (true==false) (Q (.tuple [])) (Q (.bool false))))) (ae ((true==false)==true) False (ae ((true==false)==true) ((∃b6 b7:ay,[.tuple [],.tuple []]=[ay.enc b6,ay.enc b7]∧∀b8:Bool,(b8=true↔b6=b7)→ae (true==false) (Q (.bool b8)) (Q (.bool false)))) (ae (true==false) (Q (.tuple [])) (Q (.bool false))))))
abbrev XL [Env] (A:Nat→List SV→Prop) (Q:V→Prop) (a b:List UInt8) (c d:Int) (u v:ay):Prop:=
 (ae ((false==true)==true) (ae ((false==true)==true) (ae ((false==true)==true) ((∃b0 b1:ay,[.tuple [],.agg [.int .i64 v.f0,.int .i64 v.f1,.int .u64 v.f2,.str v.f3]]=[ay.enc b0,ay.enc b1]∧∀b2:Bool,(b2=true↔b0=b1)→ae (false==true) (Q (.bool b2)) (Q (.bool false)))) (ae (false==true) (Q (.tuple [])) (Q (.bool false)))) (ae ((false==true)==true) ((∃b3 b4:ay,[.tuple [],.tuple []]=[ay.enc b3,ay.enc b4]∧∀b5:Bool,(b5=true↔b3=b4)→ae (false==true) (Q (.bool b5)) (Q (.bool false)))) (ae (false==true) (Q (.tuple [])) (Q (.bool false))))) (ae ((false==true)==true) False (ae ((false==true)==true) ((∃b6 b7:ay,[.tuple [],.tuple []]=[ay.enc b6,ay.enc b7]∧∀b8:Bool,(b8=true↔b6=b7)→ae (false==true) (Q (.bool b8)) (Q (.bool false)))) (ae (false==true) (Q (.tuple [])) (Q (.bool false))))))
abbrev SO [Env] (A:Nat→List SV→Prop) (Q:V→Prop) (a b:List UInt8) (c d:Int) (u v:ay):Prop:=
 (ae ((true==true)==true) (ae ((true==true)==true) (ae ((true==true)==true) ((∃b0 b1:ay,[.tuple [],.agg [.int .i64 v.f0,.int .i64 v.f1,.int .u64 v.f2,.str v.f3]]=[ay.enc b0,ay.enc b1]∧∀b2:Bool,(b2=true↔b0=b1)→ae (true==true) (Q (.bool b2)) (Q (.bool false)))) (ae (true==true) (Q (.tuple [])) (Q (.bool false)))) (ae ((true==true)==true) ((∃b3 b4:ay,[.tuple [],.tuple []]=[ay.enc b3,ay.enc b4]∧∀b5:Bool,(b5=true↔b3=b4)→ae (true==true) (Q (.bool b5)) (Q (.bool false)))) (ae (true==true) (Q (.tuple [])) (Q (.bool false))))) (ae ((true==true)==true) False (ae ((true==true)==true) ((∃b6 b7:ay,[.tuple [],.tuple []]=[ay.enc b6,ay.enc b7]∧∀b8:Bool,(b8=true↔b6=b7)→ae (true==true) (Q (.bool b8)) (Q (.bool false)))) (ae (true==true) (Q (.tuple [])) (Q (.bool false))))))
abbrev SQ [Env] (A:Nat→List SV→Prop) (Q:V→Prop) (a b:List UInt8) (c d:Int) (u v:ay):Prop:=
 (ae ((false==false)==true) ((∃b0 b1:ay,[.agg [.int .i64 u.f0,.int .i64 u.f1,.int .u64 u.f2,.str u.f3],.tuple []]=[ay.enc b0,ay.enc b1]∧∀b2:Bool,(b2=true↔b0=b1)→ae (false==false) (Q (.bool b2)) (Q (.bool false)))) (ae (false==false) (Q (.tuple [])) (Q (.bool false))))
theorem PS [Env] (A:Nat→List SV→Prop) (Q:V→Prop) (a b:List UInt8) (c d:Int) (u v:ay):WE Tryz.prog 164 Tryz.f164 wM 0 qT A (fun v _=>Q v) [.agg [.str a,.int .i64 c,.bool true,.int .i64 u.f0,.int .i64 u.f1,.int .u64 u.f2,.str u.f3],.agg [.str b,.int .i64 d,.bool true,.int .i64 v.f0,.int .i64 v.f1,.int .u64 v.f2,.str v.f3]] Go.Ev.start=
  (ae (decide (a=b)) (((.i64:IntKind)=.i64∧ae (decide (c=d)) (ae ((true==true)==true) (ae ((true==true)==true) (ae ((true==true)==true) (ae ((true==true)==true) (ae ((true==true)==true) ((∃XM XN:ay,[.agg [.int .i64 u.f0,.int .i64 u.f1,.int .u64 u.f2,.str u.f3],.agg [.int .i64 v.f0,.int .i64 v.f1,.int .u64 v.f2,.str v.f3]]=[ay.enc XM,ay.enc XN]∧∀XO:Bool,(XO=true↔XM=XN)→ae (true==true) (Q (.bool XO)) (Q (.bool false)))) (ae (true==true) (Q (.tuple [])) (Q (.bool false)))) (ae ((true==true)==true) ((∃XP XQ:ay,[.agg [.int .i64 u.f0,.int .i64 u.f1,.int .u64 u.f2,.str u.f3],.tuple []]=[ay.enc XP,ay.enc XQ]∧∀Ov:Bool,(Ov=true↔XP=XQ)→ae (true==true) (Q (.bool Ov)) (Q (.bool false)))) (ae (true==true) (Q (.tuple [])) (Q (.bool false))))) (ae ((true==true)==true) False (ae ((true==true)==true) ((∃XR XS:ay,[.agg [.int .i64 u.f0,.int .i64 u.f1,.int .u64 u.f2,.str u.f3],.tuple []]=[ay.enc XR,ay.enc XS]∧∀XT:Bool,(XT=true↔XR=XS)→ae (true==true) (Q (.bool XT)) (Q (.bool false)))) (ae (true==true) (Q (.tuple [])) (Q (.bool false)))))) (SO A Q a b c d u v)) (ae ((true==true)==true) False (SO A Q a b c d u v))) (Q (.bool false)))) (Q (.bool false))):=by kernel_rfl
theorem PT [Env] (A:Nat→List SV→Prop) (Q:V→Prop) (a b:List UInt8) (c d:Int) (u v:ay):WE Tryz.prog 164 Tryz.f164 wM 0 qT A (fun v _=>Q v) [.agg [.str a,.int .i64 c,.bool true,.int .i64 u.f0,.int .i64 u.f1,.int .u64 u.f2,.str u.f3],.agg [.str b,.int .i64 d,.bool false,.int .i64 v.f0,.int .i64 v.f1,.int .u64 v.f2,.str v.f3]] Go.Ev.start=
  (ae (decide (a=b)) (((.i64:IntKind)=.i64∧ae (decide (c=d)) (ae ((true==false)==true) (ae ((true==false)==true) (ae ((true==false)==true) (ae ((true==false)==true) (ae ((true==false)==true) ((∃XU XV:ay,[.agg [.int .i64 u.f0,.int .i64 u.f1,.int .u64 u.f2,.str u.f3],.agg [.int .i64 v.f0,.int .i64 v.f1,.int .u64 v.f2,.str v.f3]]=[ay.enc XU,ay.enc XV]∧∀J3:Bool,(J3=true↔XU=XV)→ae (true==false) (Q (.bool J3)) (Q (.bool false)))) (ae (true==false) (Q (.tuple [])) (Q (.bool false)))) (ae ((true==false)==true) ((∃XW XX:ay,[.agg [.int .i64 u.f0,.int .i64 u.f1,.int .u64 u.f2,.str u.f3],.tuple []]=[ay.enc XW,ay.enc XX]∧∀XY:Bool,(XY=true↔XW=XX)→ae (true==false) (Q (.bool XY)) (Q (.bool false)))) (ae (true==false) (Q (.tuple [])) (Q (.bool false))))) (ae ((true==false)==true) False (ae ((true==false)==true) ((∃XZ X0:ay,[.agg [.int .i64 u.f0,.int .i64 u.f1,.int .u64 u.f2,.str u.f3],.tuple []]=[ay.enc XZ,ay.enc X0]∧∀X1:Bool,(X1=true↔XZ=X0)→ae (true==false) (Q (.bool X1)) (Q (.bool false)))) (ae (true==false) (Q (.tuple [])) (Q (.bool false)))))) (XK A Q a b c d u v)) (ae ((true==false)==true) False (XK A Q a b c d u v))) (Q (.bool false)))) (Q (.bool false))):=by kernel_rfl
theorem PU [Env] (A:Nat→List SV→Prop) (Q:V→Prop) (a b:List UInt8) (c d:Int) (u v:ay):WE Tryz.prog 164 Tryz.f164 wM 0 qT A (fun v _=>Q v) [.agg [.str a,.int .i64 c,.bool false,.int .i64 u.f0,.int .i64 u.f1,.int .u64 u.f2,.str u.f3],.agg [.str b,.int .i64 d,.bool true,.int .i64 v.f0,.int .i64 v.f1,.int .u64 v.f2,.str v.f3]] Go.Ev.start=
  (ae (decide (a=b)) (((.i64:IntKind)=.i64∧ae (decide (c=d)) (ae ((false==true)==true) (ae ((false==true)==true) (ae ((false==true)==true) (ae ((false==true)==true) (ae ((false==true)==true) ((∃X2 X5:ay,[.agg [.int .i64 u.f0,.int .i64 u.f1,.int .u64 u.f2,.str u.f3],.agg [.int .i64 v.f0,.int .i64 v.f1,.int .u64 v.f2,.str v.f3]]=[ay.enc X2,ay.enc X5]∧∀X6:Bool,(X6=true↔X2=X5)→ae (false==true) (Q (.bool X6)) (Q (.bool false)))) (ae (false==true) (Q (.tuple [])) (Q (.bool false)))) (ae ((false==true)==true) ((∃X7 X8:ay,[.agg [.int .i64 u.f0,.int .i64 u.f1,.int .u64 u.f2,.str u.f3],.tuple []]=[ay.enc X7,ay.enc X8]∧∀OE:Bool,(OE=true↔X7=X8)→ae (false==true) (Q (.bool OE)) (Q (.bool false)))) (ae (false==true) (Q (.tuple [])) (Q (.bool false))))) (ae ((false==true)==true) False (ae ((false==true)==true) ((∃Ya Yb:ay,[.agg [.int .i64 u.f0,.int .i64 u.f1,.int .u64 u.f2,.str u.f3],.tuple []]=[ay.enc Ya,ay.enc Yb]∧∀Yc:Bool,(Yc=true↔Ya=Yb)→ae (false==true) (Q (.bool Yc)) (Q (.bool false)))) (ae (false==true) (Q (.tuple [])) (Q (.bool false)))))) (XL A Q a b c d u v)) (ae ((false==true)==true) False (XL A Q a b c d u v))) (Q (.bool false)))) (Q (.bool false))):=by kernel_rfl
theorem PV [Env] (A:Nat→List SV→Prop) (Q:V→Prop) (a b:List UInt8) (c d:Int) (u v:ay):WE Tryz.prog 164 Tryz.f164 wM 0 qT A (fun v _=>Q v) [.agg [.str a,.int .i64 c,.bool false,.int .i64 u.f0,.int .i64 u.f1,.int .u64 u.f2,.str u.f3],.agg [.str b,.int .i64 d,.bool false,.int .i64 v.f0,.int .i64 v.f1,.int .u64 v.f2,.str v.f3]] Go.Ev.start=
  (ae (decide (a=b)) (((.i64:IntKind)=.i64∧ae (decide (c=d)) (ae ((false==false)==true) (ae ((false==false)==true) (ae ((false==false)==true) (ae ((false==false)==true) (ae ((false==false)==true) ((∃SR SS:ay,[.agg [.int .i64 u.f0,.int .i64 u.f1,.int .u64 u.f2,.str u.f3],.agg [.int .i64 v.f0,.int .i64 v.f1,.int .u64 v.f2,.str v.f3]]=[ay.enc SR,ay.enc SS]∧∀SU:Bool,(SU=true↔SR=SS)→ae (false==false) (Q (.bool SU)) (Q (.bool false)))) (ae (false==false) (Q (.tuple [])) (Q (.bool false)))) (SQ A Q a b c d u v)) (ae ((false==false)==true) False (SQ A Q a b c d u v))) (XJ A Q a b c d u v)) (ae ((false==false)==true) False (XJ A Q a b c d u v))) (Q (.bool false)))) (Q (.bool false))):=by kernel_rfl
def SX [Env] (vs:List V) (σ:St) (k:ah):Prop:=
 ∃x y:aj,vs=[aj.enc x,aj.enc y]∧∀b:Bool,(b=true↔x=y)→k (.bool b) σ
def Cr [Env]:=kS 164 SX wM
def zh:Nat→List Nat:=(fun i=>match i with | 0=>[0,1,5] | _=>[])
theorem Z5 [Env] (A:Nat→List SV→Prop) (Q:V→Prop) (l m:List aj):WE Tryz.prog 129 Tryz.f129 Cr 0 zh A (fun v _=>Q v) [af aj.enc 7 l,af aj.enc 7 m] Go.Ev.start=
  (((.i64:IntKind)=.i64∧ae (decide ((((l.length:Nat):Int))≠(((m.length:Nat):Int)))) (Q (.bool false)) (A 0 [.val (af aj.enc 7 l),.val (af aj.enc 7 m),.val (.int .i64 (0:Int))]))):=by kernel_rfl
theorem Z6 [Env] (A:Nat→List SV→Prop) (Q:V→Prop) (l m:List aj) (i:Int):WL Tryz.prog 129 Tryz.f129 Cr 0 zh A (fun v _=>Q v) 0 [.val (af aj.enc 7 l),.val (af aj.enc 7 m),.val (.int .i64 i)]=
  (((.i64:IntKind)=.i64∧ae (decide (i<(((l.length:Nat):Int)))) (((0≤i∧i<((l.length:Nat):Int))∧((0≤i∧i<((m.length:Nat):Int))∧(∃SY SZ:aj,[aj.enc (l.getD i.toNat default),aj.enc (m.getD i.toNat default)]=[aj.enc SY,aj.enc SZ]∧∀S0:Bool,(S0=true↔SY=SZ)→ae ((!S0)) (Q (.bool false)) (A 0 [.val (af aj.enc 7 l),.val (af aj.enc 7 m),.val (.int .i64 (IntKind.i64.wrap (i+(1:Int))))]))))) (Q (.bool true)))):=by kernel_rfl
def S1 [Env] (vs:List V) (σ:St) (k:ah):Prop:=
 ∃x y:List aj,vs=[af aj.enc 7 x,af aj.enc 7 y]∧x.length≤1000000∧∀b:Bool,(b=true↔x=y)→k (.bool b) σ
def HQ [Env]:=kS 129 S1 Cr
def Kk:Nat→List Nat:=(fun _=>[])
theorem e76 [Env] (A:Nat→List SV→Prop) (Q:V→Prop) (x y:aa):WE Tryz.prog 76 Tryz.f76 HQ 0 Kk A (fun v _=>Q v) [aa.enc x,aa.enc y] Go.Ev.start=
  (ae (decide (x.f0=y.f0)) (((.i64:IntKind)=.i64∧ae (decide (x.f1=y.f1)) ((∃Ml S2:List aj,[af aj.enc 7 x.f2,af aj.enc 7 y.f2]=[af aj.enc 7 Ml,af aj.enc 7 S2]∧Ml.length≤1000000∧∀S3:Bool,(S3=true↔Ml=S2)→Q (.bool S3))) (Q (.bool false)))) (Q (.bool false))):=by kernel_rfl
def Yd [Env] (vs:List V) (σ:St) (k:ah):Prop:=
 ∃x y:aa,vs=[aa.enc x,aa.enc y]∧x.f2.length≤1000000∧∀b:Bool,(b=true↔x=y)→k (.bool b) σ
def Cs [Env]:=kS 76 Yd HQ
def Ct:Nat→List Nat:=(fun i=>match i with | 0=>[0,1,5] | _=>[])
theorem e32 [Env] (A:Nat→List SV→Prop) (Q:V→Prop) (l m:List aa):WE Tryz.prog 32 Tryz.f32 Cs 0 Ct A (fun v _=>Q v) [af aa.enc 3 l,af aa.enc 3 m] Go.Ev.start=
  (((.i64:IntKind)=.i64∧ae (decide ((((l.length:Nat):Int))≠(((m.length:Nat):Int)))) (Q (.bool false)) (A 0 [.val (af aa.enc 3 l),.val (af aa.enc 3 m),.val (.int .i64 (0:Int))]))):=by kernel_rfl
theorem r32 [Env] (A:Nat→List SV→Prop) (Q:V→Prop) (l m:List aa) (i:Int):WL Tryz.prog 32 Tryz.f32 Cs 0 Ct A (fun v _=>Q v) 0 [.val (af aa.enc 3 l),.val (af aa.enc 3 m),.val (.int .i64 i)]=
  (((.i64:IntKind)=.i64∧ae (decide (i<(((l.length:Nat):Int)))) (((0≤i∧i<((l.length:Nat):Int))∧((0≤i∧i<((m.length:Nat):Int))∧(∃Mm S4:aa,[aa.enc (l.getD i.toNat default),aa.enc (m.getD i.toNat default)]=[aa.enc Mm,aa.enc S4]∧Mm.f2.length≤1000000∧∀S5:Bool,(S5=true↔Mm=S4)→ae ((!S5)) (Q (.bool false)) (A 0 [.val (af aa.enc 3 l),.val (af aa.enc 3 m),.val (.int .i64 (IntKind.i64.wrap (i+(1:Int))))]))))) (Q (.bool true)))):=by kernel_rfl
def Ye [Env] (vs:List V) (σ:St) (k:ah):Prop:=
 ∃x y:List aa,vs=[af aa.enc 3 x,af aa.enc 3 y]∧(x.length≤1000000∧∀t∈x,t.f2.length≤1000000)∧∀b:Bool,(b=true↔x=y)→k (.bool b) σ
def ui [Env]:=kS 32 Ye Cs
def qU:Nat→List Nat:=(fun i=>match i with | 0=>[0,3] | _=>[])
theorem JK [Env] (A:Nat→List SV→Prop) (Q:V→Prop) (l:List aa):WE Tryz.prog 27 Tryz.f27 ui 0 qU A (fun v _=>Q v) [af aa.enc 3 l] Go.Ev.start=
  (((.i64:IntKind)=.i64∧ae (decide ((((l.length:Nat):Int))>(20:Int))) (Q (.int .i64 (0:Int))) (A 0 [.val (af aa.enc 3 l),.val (.int .i64 (0:Int))]))):=by kernel_rfl
theorem Yf [Env] (A:Nat→List SV→Prop) (Q:V→Prop) (l:List aa) (i:Int):WL Tryz.prog 27 Tryz.f27 ui 0 qU A (fun v _=>Q v) 0 [.val (af aa.enc 3 l),.val (.int .i64 i)]=
  (((.i64:IntKind)=.i64∧ae (decide (i<(((l.length:Nat):Int)))) (((0≤i∧i<((l.length:Nat):Int))∧((∃Z7:aa,[aa.enc (l.getD i.toNat default)]=[aa.enc Z7])∧((.i64:IntKind)=.i64∧Q (.int .i64 (0:Int)))∧((.i64:IntKind)=.i64∧A 0 [.val (af aa.enc 3 l),.val (.int .i64 (IntKind.i64.wrap (i+(1:Int))))])))) (Q (.int .i64 (1:Int))))):=by kernel_rfl
def Yg [Env] (vs:List V) (σ:St) (k:ah):Prop:=
 EE (∃l:List aa,vs=[af aa.enc 3 l]) σ k
def Cu [Env]:=kS 27 Yg ui
end Go.Proofs.YtbajncpfmemdgaaGreatDoor
end
