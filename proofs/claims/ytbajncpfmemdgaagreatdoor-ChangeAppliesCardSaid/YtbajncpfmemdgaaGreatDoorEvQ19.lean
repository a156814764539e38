/- Proved: parts of the way: BEq15, BC4, BC5, BEq16. -/
import Derived.Test.YtbajncpfmemdgaaGreatDoorEvQ18
set_option linter.unusedVariables false
set_option linter.unusedSimpArgs false
section
namespace Go.Proofs.YtbajncpfmemdgaaGreatDoor
open Go Go.Ev
def IQ:Nat→List Nat:=(fun _=>[])
theorem agQ [Env] (A:Nat→List SV→Prop) (Q:V→Prop) (x d:Int):WE Tryz.prog 255 Tryz.f255 LD 0 IQ A (fun v _=>Q v) [.int .i64 x,.int .i64 d] Go.Ev.start=
  (((.i64:IntKind)=.i64∧aa (decide (d=(1:Int))) (((.i64:IntKind)=.i64∧aa (decide (x≠(0:Int))) (((.i64:IntKind)=.i64∧aa (decide (x≠(1:Int))) (Q (.func (.func 265) [] [.aQ [.int .i64 (6:Int)] 0])) (Q (.func (.func 266) [] [.aQ [.int .i64 d,.int .i64 x,.int .u64 (0:Int),.str ([])] 0])))) (Q (.func (.func 266) [] [.aQ [.int .i64 d,.int .i64 x,.int .u64 (0:Int),.str ([])] 0])))) (((.i64:IntKind)=.i64∧aa (decide (d=(3:Int))) ((dL x∧aa ((!(pI x))) (Q (.func (.func 265) [] [.aQ [.int .i64 (6:Int)] 0])) (Q (.func (.func 266) [] [.aQ [.int .i64 d,.int .i64 (0:Int),.int .u64 (xl x),.str ([])] 0])))) (((.i64:IntKind)=.i64∧aa (decide (d=(4:Int))) (Q (.func (.func 266) [] [.aQ [.int .i64 d,.int .i64 (0:Int),.int .u64 (0:Int),.str (kZ (IntKind.u64.wrap x) 8)] 0])) (((.i64:IntKind)=.i64∧aa (decide (d=(5:Int))) ((dL x∧Q (.func (.func 266) [] [.aQ [.int .i64 d,.int .i64 (0:Int),.int .u64 (0:Int),.str (gd x)] 0]))) (Q (.func (.func 266) [] [.aQ [.int .i64 d,.int .i64 x,.int .u64 (0:Int),.str ([])] 0])))))))))):=by kernel_rfl
def QM [Env] (vs:List V) (σ:St) (k:ai):Prop:=
 match vs with
 | [.int .i64 x,.int .i64 d]=>((dL x∧(d=1∨d=2∨d=3∨d=4∨d=5)))∧wG (ff x d) (cZ x d) σ k
 | _=>False
def ER [Env]:=kS 255 QM LD
def AR:Nat→List Nat:=(fun _=>[])
theorem Yu [Env] (A:Nat→List SV→Prop) (Q:V→Prop) (d:Int):WE Tryz.prog 254 Tryz.f254 ER 0 AR A (fun v _=>Q v) [.int .i64 (0:Int),.int .i64 d] Go.Ev.start=
  (((.i64:IntKind)=.i64∧aa (decide (d=(5:Int))) (Q (.func (.func 266) [] [.aQ [.int .i64 d,.int .i64 (0:Int),.int .u64 (0:Int),.str ([102,97,108,115,101])] 0])) (((dL (0:Int)∧(d=1∨d=2∨d=3∨d=4∨d=5))∧((ff (0:Int) d=0→Q (.func (.func 266) [] [.aQ [.int .i64 ((cZ (0:Int) d).f0),.int .i64 ((cZ (0:Int) d).f1),.int .u64 ((cZ (0:Int) d).f2),.str ((cZ (0:Int) d).f3)] 0]))∧(ff (0:Int) d≠0→Q (.func (.func 265) [] [.aQ [.int .i64 (ff (0:Int) d)] 0]))))))):=by kernel_rfl
theorem Yv [Env] (A:Nat→List SV→Prop) (Q:V→Prop) (d:Int):WE Tryz.prog 254 Tryz.f254 ER 0 AR A (fun v _=>Q v) [.int .i64 (1:Int),.int .i64 d] Go.Ev.start=
  (((.i64:IntKind)=.i64∧aa (decide (d=(5:Int))) (Q (.func (.func 266) [] [.aQ [.int .i64 d,.int .i64 (0:Int),.int .u64 (0:Int),.str ([116,114,117,101])] 0])) (((dL (1:Int)∧(d=1∨d=2∨d=3∨d=4∨d=5))∧((ff (1:Int) d=0→Q (.func (.func 266) [] [.aQ [.int .i64 ((cZ (1:Int) d).f0),.int .i64 ((cZ (1:Int) d).f1),.int .u64 ((cZ (1:Int) d).f2),.str ((cZ (1:Int) d).f3)] 0]))∧(ff (1:Int) d≠0→Q (.func (.func 265) [] [.aQ [.int .i64 (ff (1:Int) d)] 0]))))))):=by kernel_rfl
def QN [Env] (vs:List V) (σ:St) (k:ai):Prop:=
 match vs with
 | [.int .i64 x,.int .i64 d]=>(((x=0∨x=1)∧(d=2∨d=3∨d=5)))∧wG ((0:Int)) (iO x d) σ k
 | _=>False
def LF [Env]:=kS 254 QN ER
def IU:Nat→List Nat:=(fun _=>[])
theorem agR [Env] (A:Nat→List SV→Prop) (Q:V→Prop) (x d:Int):WE Tryz.prog 256 Tryz.f256 LF 0 IU A (fun v _=>Q v) [.int .u64 x,.int .i64 d] Go.Ev.start=
  (((.i64:IntKind)=.i64∧aa (decide (d=(4:Int))) (Q (.func (.func 266) [] [.aQ [.int .i64 d,.int .i64 (0:Int),.int .u64 (0:Int),.str (kZ x 8)] 0])) ((nZ x∧aa ((!(qA x))) (Q (.func (.func 265) [] [.aQ [.int .i64 (6:Int)] 0])) (((dL (iL x)∧(d=1∨d=2∨d=3∨d=4∨d=5))∧((ff (iL x) d=0→Q (.func (.func 266) [] [.aQ [.int .i64 ((cZ (iL x) d).f0),.int .i64 ((cZ (iL x) d).f1),.int .u64 ((cZ (iL x) d).f2),.str ((cZ (iL x) d).f3)] 0]))∧(ff (iL x) d≠0→Q (.func (.func 265) [] [.aQ [.int .i64 (ff (iL x) d)] 0]))))))))):=by kernel_rfl
def QO [Env] (vs:List V) (σ:St) (k:ai):Prop:=
 match vs with
 | [.int .u64 x,.int .i64 d]=>((nZ x∧(d=1∨d=2∨d=4)))∧wG (kF x d) (iC x d) σ k
 | _=>False
def ES [Env]:=kS 256 QO LF
def AU:Nat→List Nat:=(fun i=>match i with | 0=>[1,5,30,31,32] | _=>[])
abbrev QP [Env] (A:Nat→List SV→Prop) (Q:V→Prop) (s:List UInt8) (d:Int):Prop:=
 ((.i64:IntKind)=.i64∧aa (decide (d=(5:Int))) (Q (.func (.func 266) [] [.aQ [.int .i64 d,.int .i64 (0:Int),.int .u64 (0:Int),.str s] 0])) (((.i64:IntKind)=.i64∧aa (decide ((((len s:Nat):Int))≠(8:Int))) (Q (.func (.func 265) [] [.aQ [.int .i64 (6:Int)] 0])) ((len s≤1099511627776∧(((len s)=(len s)∧1=1)∧A 0 [.val (.int .i64 d),.val (.int .u64 (0:Int)),.row (len s) (dE s) 1,.val (.int .i64 (((len s:Nat):Int))),.val (.int .i64 (0:Int))]))))))
theorem LG [Env] (A:Nat→List SV→Prop) (Q:V→Prop) (s:List UInt8) (d:Int):WE Tryz.prog 257 Tryz.f257 ES 0 AU A (fun v _=>Q v) [.str s,.int .i64 d] Go.Ev.start=
  (((.i64:IntKind)=.i64∧aa (decide (d=(5:Int))) ((s.length≤64∧aa ((!(dR s.length s))) (Q (.func (.func 265) [] [.aQ [.int .i64 (7:Int)] 0])) ((QP A Q s d)))) ((QP A Q s d)))):=by kernel_rfl
theorem agS [Env] (A:Nat→List SV→Prop) (Q:V→Prop) (t:List UInt8) (d n m i:Int):WL Tryz.prog 257 Tryz.f257 ES 0 AU A (fun v _=>Q v) 0 [.val (.int .i64 d),.val (.int .u64 n),.row (len t) (dE t) 1,.val (.int .i64 m),.val (.int .i64 i)]=
  (((.i64:IntKind)=.i64∧aa (decide (i<m)) (((0≤i∧i<((len t:Nat):Int))∧(i.toNat<len t∧(0≤(8:Int)∧(((len t)=(len t)∧1=1)∧A 0 [.val (.int .i64 d),.val (.int .u64 (IntKind.u64.wrap (BitVec.ofInt IntKind.u64.bits (IntKind.u64.wrap (n*2^min (8:Int).toNat IntKind.u64.bits))||| BitVec.ofInt IntKind.u64.bits (IntKind.u64.wrap (av t i.toNat))).toNat)),.row (len t) (dE t) 1,.val (.int .i64 m),.val (.int .i64 (IntKind.i64.wrap (i+(1:Int))))]))))) (((.i64:IntKind)=.i64∧aa (decide (d=(3:Int))) (((0≤n∧n<18446744073709551616)∧Q (.func (.func 266) [] [.aQ [.int .i64 d,.int .i64 (0:Int),.int .u64 (fG n),.str ([])] 0]))) (Q (.func (.func 266) [] [.aQ [.int .i64 d,.int .i64 (IntKind.i64.wrap n),.int .u64 (0:Int),.str ([])] 0])))))):=by kernel_rfl
def QQ [Env] (vs:List V) (σ:St) (k:ai):Prop:=
 match vs with
 | [.str x,.int .i64 d]=>((x.length≤64∧(d=2∨d=3∨d=5)))∧wG (jG x d) (gw x d) σ k
 | _=>False
def xP [Env]:=kS 257 QQ ES
def rL:Nat→List Nat:=(fun i=>match i with | 0=>[0,1,18,19] | _=>[])
theorem agT [Env] (A:Nat→List SV→Prop) (Q:V→Prop) (s:List UInt8) (d:Int):WE Tryz.prog 258 Tryz.f258 xP 0 rL A (fun v _=>Q v) [.str s,.int .i64 d] Go.Ev.start=
  (((.i64:IntKind)=.i64∧aa (decide (d=(4:Int))) (Q (.func (.func 266) [] [.aQ [.int .i64 d,.int .i64 (0:Int),.int .u64 (0:Int),.str s] 0])) (((.i64:IntKind)=.i64∧aa (decide (d=(1:Int))) (A 0 [.val (.str s),.val (.int .i64 d),.val (.agg [.str ([102,97,108,115,101]),.str ([116,114,117,101])]),.val (.int .i64 (0:Int))]) (((.i64:IntKind)=.i64∧aa (decide ((fw s)≠(0:Int))) (Q (.func (.func 265) [] [.aQ [.int .i64 (fw s)] 0])) (Q (.func (.func 266) [] [.aQ [.int .i64 d,.int .i64 (gW s),.int .u64 (0:Int),.str ([])] 0])))))))):=by kernel_rfl
theorem Yw [Env] (A:Nat→List SV→Prop) (Q:V→Prop) (s:List UInt8) (d:Int):WL Tryz.prog 258 Tryz.f258 xP 0 rL A (fun v _=>Q v) 0 [.val (.str s),.val (.int .i64 d),.val (.agg [.str ([102,97,108,115,101]),.str ([116,114,117,101])]),.val (.int .i64 (0:Int))]=
  (((.i64:IntKind)=.i64∧aa (decide ([102,97,108,115,101]=s)) (Q (.func (.func 266) [] [.aQ [.int .i64 d,.int .i64 (0:Int),.int .u64 (0:Int),.str ([])] 0])) (A 0 [.val (.str s),.val (.int .i64 d),.val (.agg [.str ([102,97,108,115,101]),.str ([116,114,117,101])]),.val (.int .i64 (1:Int))]))):=by kernel_rfl
theorem Yx [Env] (A:Nat→List SV→Prop) (Q:V→Prop) (s:List UInt8) (d:Int):WL Tryz.prog 258 Tryz.f258 xP 0 rL A (fun v _=>Q v) 0 [.val (.str s),.val (.int .i64 d),.val (.agg [.str ([102,97,108,115,101]),.str ([116,114,117,101])]),.val (.int .i64 (1:Int))]=
  (((.i64:IntKind)=.i64∧aa (decide ([116,114,117,101]=s)) (Q (.func (.func 266) [] [.aQ [.int .i64 d,.int .i64 (1:Int),.int .u64 (0:Int),.str ([])] 0])) (A 0 [.val (.str s),.val (.int .i64 d),.val (.agg [.str ([102,97,108,115,101]),.str ([116,114,117,101])]),.val (.int .i64 (2:Int))]))):=by kernel_rfl
theorem Yy [Env] (A:Nat→List SV→Prop) (Q:V→Prop) (s:List UInt8) (d:Int):WL Tryz.prog 258 Tryz.f258 xP 0 rL A (fun v _=>Q v) 0 [.val (.str s),.val (.int .i64 d),.val (.agg [.str ([102,97,108,115,101]),.str ([116,114,117,101])]),.val (.int .i64 (2:Int))]=
  (((.i64:IntKind)=.i64∧Q (.func (.func 265) [] [.aQ [.int .i64 (7:Int)] 0]))):=by kernel_rfl
def QR [Env] (vs:List V) (σ:St) (k:ai):Prop:=
 match vs with
 | [.str x,.int .i64 d]=>((x.length≤64∧(d=1∨d=2∨d=4)))∧wG (iP x d) (hG x d) σ k
 | _=>False
def LH [Env]:=kS 258 QR xP
def IV:Nat→List Nat:=(fun _=>[])
theorem agU [Env] (A:Nat→List SV→Prop) (Q:V→Prop) (v:aC) (d:Int):WE Tryz.prog 228 Tryz.f228 LH 0 IV A (fun v _=>Q v) [aC.enc v,.int .i64 d] Go.Ev.start=
  (((0≤v.f2∧v.f2<18446744073709551616)∧((.i64:IntKind)=.i64∧aa (decide ((bj ⟨v.f0,v.f1,v.f2,v.f3⟩)≠(0:Int))) (Q (.tuple [.agg [.int .i64 (0:Int),.int .i64 (0:Int),.int .u64 (0:Int),.str ([])],.int .i64 (bj ⟨v.f0,v.f1,v.f2,v.f3⟩)])) (((.i64:IntKind)=.i64∧aa (decide (d<(1:Int))) (Q (.tuple [.agg [.int .i64 (0:Int),.int .i64 (0:Int),.int .u64 (0:Int),.str ([])],.int .i64 (5:Int)])) (((.i64:IntKind)=.i64∧aa (decide (d>(5:Int))) (Q (.tuple [.agg [.int .i64 (0:Int),.int .i64 (0:Int),.int .u64 (0:Int),.str ([])],.int .i64 (5:Int)])) (((.i64:IntKind)=.i64∧aa (decide (v.f0=(0:Int))) (Q (.tuple [.agg [.int .i64 v.f0,.int .i64 v.f1,.int .u64 v.f2,.str v.f3],.int .i64 (0:Int)])) (((.i64:IntKind)=.i64∧aa (decide (v.f0=d)) (Q (.tuple [.agg [.int .i64 v.f0,.int .i64 v.f1,.int .u64 v.f2,.str v.f3],.int .i64 (0:Int)])) (aa ((!(iY v.f0 d))) (Q (.tuple [.agg [.int .i64 (0:Int),.int .i64 (0:Int),.int .u64 (0:Int),.str ([])],.int .i64 (5:Int)])) (((.i64:IntKind)=.i64∧aa (decide (v.f0=(1:Int))) ((((v.f1=0∨v.f1=1)∧(d=2∨d=3∨d=5))∧(((0:Int)=0→Q (.tuple [.agg [.int .i64 ((iO v.f1 d).f0),.int .i64 ((iO v.f1 d).f1),.int .u64 ((iO v.f1 d).f2),.str ((iO v.f1 d).f3)],.int .i64 (0:Int)]))∧((0:Int)≠0→Q (.tuple [.agg [.int .i64 (0:Int),.int .i64 (0:Int),.int .u64 (0:Int),.str ([])],.int .i64 ((0:Int))]))))) (((.i64:IntKind)=.i64∧aa (decide (v.f0=(2:Int))) (((dL v.f1∧(d=1∨d=2∨d=3∨d=4∨d=5))∧((ff v.f1 d=0→Q (.tuple [.agg [.int .i64 ((cZ v.f1 d).f0),.int .i64 ((cZ v.f1 d).f1),.int .u64 ((cZ v.f1 d).f2),.str ((cZ v.f1 d).f3)],.int .i64 (0:Int)]))∧(ff v.f1 d≠0→Q (.tuple [.agg [.int .i64 (0:Int),.int .i64 (0:Int),.int .u64 (0:Int),.str ([])],.int .i64 (ff v.f1 d)]))))) (((.i64:IntKind)=.i64∧aa (decide (v.f0=(3:Int))) (((nZ v.f2∧(d=1∨d=2∨d=4))∧((kF v.f2 d=0→Q (.tuple [.agg [.int .i64 ((iC v.f2 d).f0),.int .i64 ((iC v.f2 d).f1),.int .u64 ((iC v.f2 d).f2),.str ((iC v.f2 d).f3)],.int .i64 (0:Int)]))∧(kF v.f2 d≠0→Q (.tuple [.agg [.int .i64 (0:Int),.int .i64 (0:Int),.int .u64 (0:Int),.str ([])],.int .i64 (kF v.f2 d)]))))) (((.i64:IntKind)=.i64∧aa (decide (v.f0=(4:Int))) (((v.f3.length≤64∧(d=2∨d=3∨d=5))∧((jG v.f3 d=0→Q (.tuple [.agg [.int .i64 ((gw v.f3 d).f0),.int .i64 ((gw v.f3 d).f1),.int .u64 ((gw v.f3 d).f2),.str ((gw v.f3 d).f3)],.int .i64 (0:Int)]))∧(jG v.f3 d≠0→Q (.tuple [.agg [.int .i64 (0:Int),.int .i64 (0:Int),.int .u64 (0:Int),.str ([])],.int .i64 (jG v.f3 d)]))))) (((v.f3.length≤64∧(d=1∨d=2∨d=4))∧((iP v.f3 d=0→Q (.tuple [.agg [.int .i64 ((hG v.f3 d).f0),.int .i64 ((hG v.f3 d).f1),.int .u64 ((hG v.f3 d).f2),.str ((hG v.f3 d).f3)],.int .i64 (0:Int)]))∧(iP v.f3 d≠0→Q (.tuple [.agg [.int .i64 (0:Int),.int .i64 (0:Int),.int .u64 (0:Int),.str ([])],.int .i64 (iP v.f3 d)]))))))))))))))))))))))))):=by kernel_rfl
def QS [Env] (vs:List V) (σ:St) (k:ai):Prop:=
 match vs with
 | [.agg [.int .i64 a,.int .i64 b,.int .u64 c,.str s],.int .i64 d]=>zl ⟨a,b,c,s⟩∧k (.tuple [aC.enc (jV ⟨a,b,c,s⟩ d),.int .i64 (EM ⟨a,b,c,s⟩ d)]) σ
 | _=>False
def LI [Env]:=kS 228 QS LH
end Go.Proofs.YtbajncpfmemdgaaGreatDoor
end
section
namespace Go.Proofs.YtbajncpfmemdgaaGreatDoor
open Go Go.Ev Go.IntWalk Go.Ev.Flt
theorem F241:bc Tryz.prog 241 Tryz.f241:=.of (by kernel_rfl) (by kernel_rfl)
theorem F207:bc Tryz.prog 207 Tryz.f207:=.of (by kernel_rfl) (by kernel_rfl)
theorem F208:bc Tryz.prog 208 Tryz.f208:=.of (by kernel_rfl) (by kernel_rfl)
theorem F209:bc Tryz.prog 209 Tryz.f209:=.of (by kernel_rfl) (by kernel_rfl)
theorem F244:bc Tryz.prog 244 Tryz.f244:=.of (by kernel_rfl) (by kernel_rfl)
theorem F210:bc Tryz.prog 210 Tryz.f210:=.of (by kernel_rfl) (by kernel_rfl)
theorem F211:bc Tryz.prog 211 Tryz.f211:=.of (by kernel_rfl) (by kernel_rfl)
theorem F163:bc Tryz.prog 163 Tryz.f163:=.of (by kernel_rfl) (by kernel_rfl)
theorem TF {c:Prop} [Decidable c] {Y Z:Prop} (h:c) (y:Y):aa (decide c) Y Z:=by rw[decide_eq_true h];exact y
theorem TG {c:Prop} [Decidable c] {Y Z:Prop} (h:¬c) (z:Z):aa (decide c) Y Z:=by rw[decide_eq_false h];exact z
theorem vt {b:Bool} {Y Z:Prop} (y:b=false→Y) (z:b=true→Z):aa (!b) Y Z:=by cases b<;>first | exact y rfl | exact z rfl
theorem rP {a b c e e':Int} {s:List UInt8} {v:aC} (hv:v=⟨a,b,c,s⟩) (he:e'=e):V.tuple [.agg [.int .i64 a,.int .i64 b,.int .u64 c,.str s],.int .i64 e]=.tuple [aC.enc v,.int .i64 e']:=by subst hv;subst he;rfl
theorem Oa (b:Int):dL (iL b):=by
 unfold iL
 split
 ·rename_i h
  obtain⟨_,_,_,_,h1,h2⟩:=Classical.choose_spec h
  exact⟨h1,by omega⟩
 ·exact⟨by decide,by decide⟩
theorem Ob (x:Int):0≤IntKind.u64.wrap x∧IntKind.u64.wrap x<18446744073709551616:=by rw[wrap_u64];omega
theorem vu {s:List UInt8} {n:Nat} (h:0≤ja s n):IntKind.u64.wrap (BitVec.ofInt IntKind.u64.bits (IntKind.u64.wrap ((ja s n)*2^min (8:Int).toNat IntKind.u64.bits))||| BitVec.ofInt IntKind.u64.bits (IntKind.u64.wrap (av s n))).toNat=ja s (n+1):=by
 have hb:=iJ s n
 obtain⟨x,hx⟩:∃x:Nat,ja s n=x:=⟨(ja s n).toNat,(Int.toNat_of_nonneg h).symm⟩
 obtain⟨y,hy⟩:∃y:Nat,av s n=y:=⟨(av s n).toNat,(Int.toNat_of_nonneg hb.1).symm⟩
 have h8:=AN x 8 (by decide)
 rw[show((8:Nat):Int)=(8:Int) from rfl] at h8
 have e:IntKind.u64.wrap (av s n)=((y:Nat):Int):=by rw[wrap_u64,hy];omega
 rw[hx,h8,e,Ix (Nat.mod_lt _ (by decide)) (by omega)]
 rw[show x*2^8%18446744073709551616=2^8*(x%72057594037927936) by omega,zk (by omega)]
 unfold ja
 rw[hx,hy]
 omega
theorem rM {s:List UInt8}:∀n,0≤ja s n∧ja s n<18446744073709551616
 | 0=>⟨Int.le_refl _,(by decide:(0:Int)<18446744073709551616)⟩
 | n+1=>by rw[←vu (rM n).1];exact Ob _
def agV (s:List UInt8):Nat→List SV→Prop
 | 0,ss=>∃i:Nat,i≤8∧ss=[.val (.str s),.val (.int .u64 (ja s i)),.val (.int .i64 ((i:Nat):Int))]
 | _,_=>False
section
variable [Env] [aL] {vs:List V} {σ:St} {k:ai}
omit [aL] in
theorem vw {v:aC} {e:Int}:dK (.tuple [aC.enc v,.int .i64 e]):=.tuple (bD (.agg (bD (.int _ _) (bD (.int _ _) (bD (.int _ _) (bD (.str _) gb))))) (bD (.int _ _) gb))
theorem Vk (h:QE vs σ k):ag Tryz.prog 241 vs k σ:=by
 unfold QE at h
 split at h
 ·rename_i x
  refine ag.cb (ar (Go.Ev.Clean.int _ _) aG) vw (F241.flat (live:=IH) (call:=Ls) (n₀:=0) (σ:=Go.Ev.start) (fun h=>IF h) rfl (by kernel_rfl) ?_) h
  rw[agK]
  refine⟨rfl,aq (fun h1=>⟨rfl,aq (fun h2=>?_) fun h2=>?_⟩) fun h1=>?_⟩<;>refine rP ?_ ?_
  ·unfold cZ;rw[if_pos rfl,if_neg (by omega)];rfl
  ·unfold ff;rw[if_pos rfl,if_neg (by omega)]
  ·unfold cZ;rw[if_pos rfl,if_pos (by omega)]
  ·unfold ff;rw[if_pos rfl,if_pos (by omega)]
  ·unfold cZ;rw[if_pos rfl,if_pos (by omega)]
  ·unfold ff;rw[if_pos rfl,if_pos (by omega)]
 ·exact h.elim
theorem IW:∀ {f:FuncId} {vs:List V} {σ:St} {k:ai},Lw f vs σ k→ag Tryz.prog f vs k σ:=fun h=>aD Vk IF h
omit [Env] [aL] in
theorem Yz {n:Int} (h:n=0∨n=1):pI n=true:=by rcases h with rfl | rfl<;>decide
theorem Vl (h:QF vs σ k):ag Tryz.prog 207 vs k σ:=by
 unfold QF at h
 split at h
 ·rename_i x d
  obtain⟨⟨hx,hd⟩,h⟩:=h
  refine ag.cb (ar (Go.Ev.Clean.int _ _) (ar (Go.Ev.Clean.int _ _) aG)) vw (F207.flat (live:=II) (call:=Lw) (n₀:=0) (σ:=Go.Ev.start) (fun h=>IW h) rfl (by kernel_rfl) ?_) h
  rw[agL]
  unfold iO cZ
  refine⟨rfl,aq (fun h1=>?_) fun h1=>⟨rfl,aq (fun h2=>⟨?_,?_⟩) fun h2=>⟨rfl,aq (fun h3=>?_) fun h3=>?_⟩⟩⟩
  ·subst h1;exact rP rfl rfl
  ·rcases hx with rfl | rfl<;>exact⟨by decide,by decide⟩
  ·subst h2
   refine rP ?_ rfl
   rw[if_neg (by decide),if_neg (by decide),if_pos rfl,if_pos (Yz hx)]
  ·obtain rfl:d=5:=by omega
   refine rP ?_ rfl
   rw[if_pos rfl,if_pos h3];rfl
  ·obtain rfl:d=5:=by omega
   refine rP ?_ rfl
   rw[if_pos rfl,if_neg h3];rfl
 ·exact h.elim
theorem IX:∀ {f:FuncId} {vs:List V} {σ:St} {k:ai},Lx f vs σ k→ag Tryz.prog f vs k σ:=fun h=>aD Vl IW h
theorem Vm (h:QG vs σ k):ag Tryz.prog 208 vs k σ:=by
 unfold QG at h
 split at h
 ·rename_i x d
  obtain⟨⟨hx,hd⟩,h⟩:=h
  refine ag.cb (ar (Go.Ev.Clean.int _ _) (ar (Go.Ev.Clean.int _ _) aG)) vw (F208.flat (live:=IJ) (call:=Lx) (n₀:=0) (σ:=Go.Ev.start) (fun h=>IX h) rfl (by kernel_rfl) ?_) h
  rw[agM]
  refine⟨rfl,aq (fun h1=>?_) fun h1=>⟨rfl,aq (fun h2=>⟨hx,vt (fun h3=>?_) fun h3=>?_⟩) fun h2=>⟨rfl,aq (fun h3=>?_) fun h3=>⟨hx,?_⟩⟩⟩⟩
  ·subst h1;rfl
  ·subst h2
   refine rP ?_ ?_
   ·unfold cZ;rw[if_neg (by decide),if_pos rfl,if_neg (by rw[h3];decide)];rfl
   ·unfold ff;rw[if_neg (by decide),if_pos rfl,if_neg (by rw[h3];decide)]
  ·subst h2
   refine rP ?_ ?_
   ·unfold cZ;rw[if_neg (by decide),if_pos rfl,if_pos h3]
   ·unfold ff;rw[if_neg (by decide),if_pos rfl,if_pos h3]
  ·subst h3;exact rP rfl rfl
  ·obtain rfl:d=5:=by omega
   exact rP rfl rfl
 ·exact h.elim
theorem IY:∀ {f:FuncId} {vs:List V} {σ:St} {k:ai},Ly f vs σ k→ag Tryz.prog f vs k σ:=fun h=>aD Vm IX h
theorem Vn (h:QH vs σ k):ag Tryz.prog 209 vs k σ:=by
 unfold QH at h
 split at h
 ·rename_i x d
  obtain⟨⟨hx,hd⟩,h⟩:=h
  refine ag.cb (ar (Go.Ev.Clean.int _ _) (ar (Go.Ev.Clean.int _ _) aG)) vw (F209.flat (live:=IK) (call:=Ly) (n₀:=0) (σ:=Go.Ev.start) (fun h=>IY h) rfl (by kernel_rfl) ?_) h
  rw[agN]
  refine⟨rfl,aq (fun h1=>?_) fun h1=>⟨hx,vt (fun h3=>?_) fun h3=>⟨rfl,aq (fun h2=>?_) fun h2=>?_⟩⟩⟩
  ·subst h1;exact rP rfl rfl
  ·refine rP ?_ ?_
   ·unfold iC;rw[if_neg h1,if_neg (by rw[h3];decide)];rfl
   ·unfold kF;rw[if_neg h1,if_neg (by rw[h3];decide)]
  ·subst h2
   refine rP ?_ ?_
   ·unfold iC;rw[if_neg h1,if_pos h3]
   ·unfold kF;rw[if_neg h1,if_pos h3]
  ·obtain rfl:d=2:=by omega
   refine rP ?_ ?_
   ·unfold iC;rw[if_neg h1,if_pos h3];rfl
   ·unfold kF;rw[if_neg h1,if_pos h3];rfl
 ·exact h.elim
theorem IZ:∀ {f:FuncId} {vs:List V} {σ:St} {k:ai},EN f vs σ k→ag Tryz.prog f vs k σ:=fun h=>aD Vn IY h
theorem Vo (h:QI vs σ k):ag Tryz.prog 244 vs k σ:=by
 unfold QI at h
 split at h
 ·rename_i s
  obtain⟨hs,h⟩:=h
  refine ag.cb (ar (Go.Ev.Clean.str _) aG) (.int _ _) (F244.bV (live:=AP) (call:=EN) (n₀:=0) (σ:=Go.Ev.start) (fun h=>IZ h) rfl 1 (by kernel_rfl) Nat.lt_wfRel.wf (fun _ ss=>8-bF ss) (agV s) ?_ ?_ ?_) h
  ·intro k ss hI
   cases k with
   | zero=>obtain⟨i,_,rfl⟩:=hI;exact gv (ay (ay bg))
   | succ k=>exact hI.elim
  ·rw[EO]
   exact⟨0,by decide,rfl⟩
  ·intro k hk ss hI
   obtain rfl:k=0:=by omega
   obtain⟨i,hi,rfl⟩:=hI
   rw[agO,hL]
   refine⟨rfl,aq (fun h1=>⟨by decide,⟨by omega,by omega⟩,⟨i+1,by omega,?_⟩,?_⟩) fun h1=>?_⟩
   ·rw[show bu s ((i:Nat):Int)=av s i from rfl,vu (rM i).1,i64_in ((i:Int)+1) (by omega)];rfl
   ·show 8-(IntKind.i64.wrap (((i:Nat):Int)+1)).toNat<8-(((i:Nat):Int)).toNat
    rw[i64_in ((i:Int)+1) (by omega)];omega
   ·obtain rfl:i=8:=by omega
    rfl
 ·exact h.elim
theorem I0:∀ {f:FuncId} {vs:List V} {σ:St} {k:ai},Lz f vs σ k→ag Tryz.prog f vs k σ:=fun h=>aD Vo IZ h
theorem Vp (h:QJ vs σ k):ag Tryz.prog 210 vs k σ:=by
 unfold QJ at h
 split at h
 ·rename_i s d
  obtain⟨⟨hx,hd⟩,h⟩:=h
  refine ag.cb (ar (Go.Ev.Clean.str _) (ar (Go.Ev.Clean.int _ _) aG)) vw (F210.flat (live:=IL) (call:=Lz) (n₀:=0) (σ:=Go.Ev.start) (fun h=>I0 h) rfl (by kernel_rfl) ?_) h
  rw[agP,hL]
  unfold gw jG
  refine⟨rfl,aq (fun h1=>⟨hx,vt (fun h3=>?_) fun h3=>?_⟩) fun h1=>⟨rfl,aq (fun h2=>?_) fun h2=>?_⟩⟩
  ·refine rP ?_ ?_
   ·rw[if_pos h1,if_neg (by rw[h3];decide)];rfl
   ·rw[if_pos h1,if_neg (by rw[h3];decide)]
  ·refine rP ?_ ?_
   ·rw[if_pos h1,if_pos h3]
   ·rw[if_pos h1,if_pos h3]
  ·refine rP ?_ ?_
   ·rw[if_neg h1,if_neg (by omega)];rfl
   ·rw[if_neg h1,if_neg (by omega)]
  ·have h8:s.length=8:=by omega
   refine⟨rfl,aq (fun h3=>⟨h8,rM 8,?_⟩) fun h3=>⟨h8,?_⟩⟩
   ·refine rP ?_ ?_
    ·rw[if_neg h1,if_pos h8,if_pos h3]
    ·rw[if_neg h1,if_pos h8]
   ·refine rP ?_ ?_
    ·rw[if_neg h1,if_pos h8,if_neg h3]
    ·rw[if_neg h1,if_pos h8]
 ·exact h.elim
theorem I1:∀ {f:FuncId} {vs:List V} {σ:St} {k:ai},LA f vs σ k→ag Tryz.prog f vs k σ:=fun h=>aD Vp I0 h
theorem Vq (h:QK vs σ k):ag Tryz.prog 211 vs k σ:=by
 unfold QK at h
 split at h
 ·rename_i s d
  obtain⟨⟨hx,hd⟩,h⟩:=h
  refine ag.cb (ar (Go.Ev.Clean.str _) (ar (Go.Ev.Clean.int _ _) aG)) vw (F211.flat (live:=IM) (call:=LA) (n₀:=0) (σ:=Go.Ev.start) (fun h=>I1 h) rfl (by kernel_rfl) ?_) h
  rw[LB];unfold EP
  unfold hG iP
  have tail:d≠4→d≠1→((.i64:IntKind)=.i64∧aa (decide (fw s≠(0:Int))) (V.tuple [.agg [.int .i64 (0:Int),.int .i64 (0:Int),.int .u64 (0:Int),.str ([])],.int .i64 (fw s)]=.tuple [aC.enc (if d=4 then⟨d,0,0,s⟩ else if d=1 then(if s=jv then⟨d,1,0,[]⟩ else if s=iB then⟨d,0,0,[]⟩ else kh) else if fw s=0 then⟨d,gW s,0,[]⟩ else kh),.int .i64 (if d=4 then 0 else if d=1 then(if s=jv∨s=iB then 0 else 7) else fw s)])
    (V.tuple [.agg [.int .i64 d,.int .i64 (gW s),.int .u64 (0:Int),.str ([])],.int .i64 (0:Int)]=.tuple [aC.enc (if d=4 then⟨d,0,0,s⟩ else if d=1 then(if s=jv then⟨d,1,0,[]⟩ else if s=iB then⟨d,0,0,[]⟩ else kh) else if fw s=0 then⟨d,gW s,0,[]⟩ else kh),.int .i64 (if d=4 then 0 else if d=1 then(if s=jv∨s=iB then 0 else 7) else fw s)])):=fun h1 h2=>by
   refine⟨rfl,aq (fun h3=>rP ?_ ?_) fun h3=>rP ?_ ?_⟩
   ·rw[if_neg h1,if_neg h2,if_neg h3];rfl
   ·rw[if_neg h1,if_neg h2]
   ·rw[if_neg h1,if_neg h2,if_pos (Classical.not_not.mp h3)]
   ·rw[if_neg h1,if_neg h2];exact Classical.not_not.mp h3
  refine⟨rfl,aq (fun h1=>rP ?_ ?_) fun h1=>⟨rfl,aq (fun h2=>aq (fun h3=>rP ?_ ?_) fun h3=>⟨rfl,TF h2 (aq (fun h4=>rP ?_ ?_) fun h4=>⟨rfl,TF h2 (rP ?_ ?_)⟩)⟩) fun h2=>⟨rfl,TG h2 ⟨rfl,TG h2 (tail h1 h2)⟩⟩⟩⟩
  ·rw[if_pos h1]
  ·rw[if_pos h1]
  ·rw[if_neg h1,if_pos h2,if_pos (show s=jv from h3)]
  ·rw[if_neg h1,if_pos h2,if_pos (.inl (show s=jv from h3))]
  ·rw[if_neg h1,if_pos h2,if_neg (show ¬s=jv from h3),if_pos (show s=iB from h4)]
  ·rw[if_neg h1,if_pos h2,if_pos (.inr (show s=iB from h4))]
  ·rw[if_neg h1,if_pos h2,if_neg (show ¬s=jv from h3),if_neg (show ¬s=iB from h4)];rfl
  ·rw[if_neg h1,if_pos h2,if_neg (fun c:s=jv∨s=iB=>c.elim h3 h4)]
 ·exact h.elim
theorem I2:∀ {f:FuncId} {vs:List V} {σ:St} {k:ai},LC f vs σ k→ag Tryz.prog f vs k σ:=fun h=>aD Vq I1 h
omit [Env] [aL] in
theorem xm {v:aC} (h:bj v=0):(0≤v.f0∧v.f0≤5)∧(v.f0=1→v.f1=0∨v.f1=1)∧v.f3.length≤64:=by
 refine⟨?_,?_,Lc h⟩
 ·unfold bj at h
  split at h
  ·cases h
  ·omega
 ·intro h1
  unfold bj at h
  split at h
  ·cases h
  ·split at h
   ·cases h
   ·split at h
    ·cases h
    ·omega
omit [Env] [aL] in
theorem ET {a b:Int}:iY a b=true↔((1≤a∧a≤5)∧(1≤b∧b≤5)∧¬(a=1∧b=4)∧¬(a=4∧b=1)∧¬(a=3∧b=5)∧¬(a=5∧b=3)):=decide_eq_true_iff
theorem Vr (h:QL vs σ k):ag Tryz.prog 163 vs k σ:=by
 unfold QL at h
 split at h
 ·rename_i a b c s d
  obtain⟨hv,h⟩:=h
  generalize hV:(⟨a,b,c,s⟩:aC)=v at *
  rw[show(V.agg [.int .i64 a,.int .i64 b,.int .u64 c,.str s])=aC.enc v by rw[←hV];rfl]
  refine ag.cb (ar (aC.aE v) (ar (Go.Ev.Clean.int _ _) aG)) vw (F163.flat (live:=IP) (call:=LC) (n₀:=0) (σ:=Go.Ev.start) (fun h=>I2 h) rfl (by kernel_rfl) ?_) h
  rw[AQ]
  unfold jV EM
  refine⟨hv.1,rfl,aq (fun h1=>rP ?_ ?_) fun h1=>?_⟩
  ·rw[if_pos (show bj v≠0 from h1)];rfl
  ·rw[if_pos (show bj v≠0 from h1)]
  ·replace h1:¬bj v≠0:=h1
   rw[if_neg h1,if_neg h1]
   obtain⟨k1,k2,k3⟩:=xm (Classical.not_not.mp h1)
   refine⟨rfl,aq (fun h2=>rP ?_ ?_) fun h2=>⟨rfl,aq (fun h3=>rP ?_ ?_) fun h3=>?_⟩⟩
   ·rw[if_pos (.inl h2)];rfl
   ·rw[if_pos (.inl h2)]
   ·rw[if_pos (.inr h3)];rfl
   ·rw[if_pos (.inr h3)]
   ·have hd:¬(d<1∨d>5):=by omega
    rw[if_neg hd,if_neg hd]
    refine⟨rfl,aq (fun h4=>rP ?_ ?_) fun h4=>⟨rfl,aq (fun h5=>rP ?_ ?_) fun h5=>?_⟩⟩
    ·rw[if_pos (.inl h4)]
    ·rw[if_pos (.inl h4)]
    ·rw[if_pos (.inr h5)]
    ·rw[if_pos (.inr h5)]
    ·have Oc:¬(v.f0=0∨v.f0=d):=by omega
     rw[if_neg Oc,if_neg Oc]
     refine vt (fun h6=>rP ?_ ?_) fun h6=>?_
     ·rw[if_pos h6];rfl
     ·rw[if_pos h6]
     ·have hc:=ET.mp h6
      have Od:¬iY v.f0 d=false:=by rw[h6];decide
      rw[if_neg Od,if_neg Od]
      refine⟨rfl,aq (fun h7=>⟨⟨k2 h7,by omega⟩,?_⟩) fun h7=>⟨rfl,aq (fun h8=>⟨⟨hv.2,by omega⟩,?_⟩) fun h8=>⟨rfl,aq (fun h9=>⟨⟨hv.1,by omega⟩,?_⟩) fun h9=>⟨rfl,aq (fun lO=>⟨⟨k3,by omega⟩,?_⟩) fun lO=>⟨⟨k3,by omega⟩,?_⟩⟩⟩⟩⟩
      ·rw[if_pos h7,if_pos h7];rfl
      ·rw[if_neg h7,if_neg h7,if_pos h8,if_pos h8];rfl
      ·rw[if_neg h7,if_neg h7,if_neg h8,if_neg h8,if_pos h9,if_pos h9];rfl
      ·rw[if_neg h7,if_neg h7,if_neg h8,if_neg h8,if_neg h9,if_neg h9,if_pos lO,if_pos lO];rfl
      ·rw[if_neg h7,if_neg h7,if_neg h8,if_neg h8,if_neg h9,if_neg h9,if_neg lO,if_neg lO];rfl
 ·exact h.elim
theorem I3:∀ {f:FuncId} {vs:List V} {σ:St} {k:ai},LD f vs σ k→ag Tryz.prog f vs k σ:=fun h=>aD Vr I2 h
end
end Go.Proofs.YtbajncpfmemdgaaGreatDoor
end
section
namespace Go.Proofs.YtbajncpfmemdgaaGreatDoor
open Go Go.Ev Go.IntWalk Go.Ev.Flt
theorem F255:bc Tryz.prog 255 Tryz.f255:=.of (by kernel_rfl) (by kernel_rfl)
theorem F254:bc Tryz.prog 254 Tryz.f254:=.of (by kernel_rfl) (by kernel_rfl)
theorem F256:bc Tryz.prog 256 Tryz.f256:=.of (by kernel_rfl) (by kernel_rfl)
theorem F257:bc Tryz.prog 257 Tryz.f257:=.of (by kernel_rfl) (by kernel_rfl)
theorem F258:bc Tryz.prog 258 Tryz.f258:=.of (by kernel_rfl) (by kernel_rfl)
theorem F228:bc Tryz.prog 228 Tryz.f228:=.of (by kernel_rfl) (by kernel_rfl)
def tc (e:Int) (v:aC) (u:V):Prop:=(e=0∧u=TE v)∨(e≠0∧u=IG e)
theorem oE {e:Int} {v:aC} {a b c:Int} {s:List UInt8} (he:e=0) (hv:v=⟨a,b,c,s⟩):tc e v (.func (.func 266) [] [.aQ [.int .i64 a,.int .i64 b,.int .u64 c,.str s] 0]):=.inl ⟨he,by subst hv;rfl⟩
theorem EU {e:Int} {v:aC} {x:Int} (h0:x≠0) (he:e=x):tc e v (.func (.func 265) [] [.aQ [.int .i64 x] 0]):=.inr ⟨by rw[he];exact h0,by rw[he];rfl⟩
theorem YA {e e':Int} {v v':aC} (he:e=e') (hv:v=v'):(e'=0→tc e v (.func (.func 266) [] [.aQ [.int .i64 v'.f0,.int .i64 v'.f1,.int .u64 v'.f2,.str v'.f3] 0]))∧(e'≠0→tc e v (.func (.func 265) [] [.aQ [.int .i64 e'] 0])):=by
 subst he;subst hv
 exact⟨fun h=>.inl ⟨h,rfl⟩,fun h=>.inr ⟨h,rfl⟩⟩
theorem Oe {e e':Int} {v v':aC} (he:e=e') (hv:v=v') (hb:e≠0→v=kh):(e=0→V.tuple [.agg [.int .i64 v.f0,.int .i64 v.f1,.int .u64 v.f2,.str v.f3],.int .i64 (0:Int)]=.tuple [aC.enc v',.int .i64 e'])∧
  (e≠0→V.tuple [.agg [.int .i64 (0:Int),.int .i64 (0:Int),.int .u64 (0:Int),.str ([])],.int .i64 e]=.tuple [aC.enc v',.int .i64 e']):=by
 subst he;subst hv
 exact⟨fun h=>by rw[h];rfl,fun h=>by rw[hb h];rfl⟩
theorem AV {x d:Int} (h:ff x d≠0):cZ x d=kh:=by
 unfold ff at h;unfold cZ
 split at h
 ·rename_i h1
  rw[if_pos h1]
  split at h
  ·exact(h rfl).elim
  ·rename_i h2;rw[if_neg h2]
 ·rename_i h1
  rw[if_neg h1]
  split at h
  ·rename_i h2
   rw[if_pos h2]
   split at h
   ·exact(h rfl).elim
   ·rename_i h3;rw[if_neg h3]
  ·exact(h rfl).elim
theorem EV {x d:Int} (h:kF x d≠0):iC x d=kh:=by
 unfold kF at h;unfold iC
 split at h
 ·exact(h rfl).elim
 ·rename_i h1
  rw[if_neg h1]
  split at h
  ·rename_i h2;rw[if_pos h2];exact AV h
  ·rename_i h2;rw[if_neg h2]
theorem B6 {s:List UInt8} {d:Int} (h:jG s d≠0):gw s d=kh:=by
 unfold jG at h;unfold gw
 split at h
 ·rename_i h1
  rw[if_pos h1]
  split at h
  ·exact(h rfl).elim
  ·rename_i h2;rw[if_neg h2]
 ·rename_i h1
  rw[if_neg h1]
  split at h
  ·exact(h rfl).elim
  ·rename_i h2;rw[if_neg h2]
theorem EW {s:List UInt8} {d:Int} (h:iP s d≠0):hG s d=kh:=by
 unfold iP at h;unfold hG
 split at h
 ·exact(h rfl).elim
 ·rename_i h1
  rw[if_neg h1]
  split at h
  ·rename_i h2
   rw[if_pos h2]
   split at h
   ·exact(h rfl).elim
   ·rename_i h3;rw[if_neg (fun c=>h3 (.inl c)),if_neg (fun c=>h3 (.inr c))]
  ·rename_i h2;rw[if_neg h2,if_neg h]
def YB (s:List UInt8) (d:Int):Nat→List SV→Prop
 | 0,ss=>∃i:Nat,i≤8∧ss=[.val (.int .i64 d),.val (.int .u64 (ja s i)),.row (len s) (dE s) 1,.val (.int .i64 ((8:Nat):Int)),.val (.int .i64 ((i:Nat):Int))]
 | _,_=>False
def agW (s:List UInt8) (d:Int):Nat→List SV→Prop
 | 0,ss=>∃i:Nat,i≤2∧(0<i→s≠iB)∧(1<i→s≠jv)∧ss=[.val (.str s),.val (.int .i64 d),.val (.agg [.str [102,97,108,115,101],.str [116,114,117,101]]),.val (.int .i64 ((i:Nat):Int))]
 | _,_=>False
section
variable [Env] [aL] {vs:List V} {σ:St} {k:ai}
omit [aL] in
theorem ag.agX {f:FuncId} {A:V→Prop} (hc:∀v∈vs,Go.Ev.Clean v) (hA:∀v,A v→Go.Ev.Clean v) (h:ag Tryz.prog f vs (fun v _=>A v) Go.Ev.start) (hk:∀v,A v→k v σ):ag Tryz.prog f vs k σ:=
 (ag.y4 (Q:=A) hc (h.mono fun v _ hv=>⟨v,.clean (hA v hv),hv⟩)).mono fun v τ ⟨h1,h2⟩=>by subst h2;exact hk v h1
omit [aL] in
theorem LJ {e:Int} {v:aC}:∀u,tc e v u→Go.Ev.Clean u:=fun u hu=>by
 rcases hu with ⟨_,rfl⟩ | ⟨_,rfl⟩
 ·exact Go.Ev.Clean.fn cM (aI (Go.Ev.Clean.aQ (aC.clean v)) cM)
 ·exact Go.Ev.Clean.fn cM (aI (Go.Ev.Clean.aQ (aI (Go.Ev.Clean.int _ _) cM)) cM)
omit [aL] in
theorem rN {f:FuncId} {e:Int} {v:aC} (hc:∀v∈vs,Go.Ev.Clean v) (h:ag Tryz.prog f vs (fun u _=>tc e v u) Go.Ev.start) (hk:wG e v σ k):ag Tryz.prog f vs k σ:=
 ag.agX hc LJ h fun u hu=>by
  rcases hu with ⟨h,rfl⟩ | ⟨h,rfl⟩
  ·exact hk.1 h
  ·exact hk.2 h
theorem Vs (h:QM vs σ k):ag Tryz.prog 255 vs k σ:=by
 unfold QM at h
 split at h
 ·rename_i x d
  obtain⟨⟨hx,hd⟩,h⟩:=h
  refine rN (aI (Go.Ev.Clean.int _ _) (aI (Go.Ev.Clean.int _ _) cM)) (F255.flat (live:=IQ) (call:=LD) (n₀:=0) (σ:=Go.Ev.start) (fun h=>I3 h) rfl (by kernel_rfl) ?_) h
  rw[agQ]
  unfold ff cZ
  refine⟨rfl,aq (fun h1=>⟨rfl,aq (fun h2=>⟨rfl,aq (fun h3=>EU (by decide) ?_) fun h3=>oE ?_ ?_⟩) fun h2=>oE ?_ ?_⟩) fun h1=>⟨rfl,aq (fun h2=>⟨hx,vt (fun h3=>EU (by decide) ?_) fun h3=>oE ?_ ?_⟩) fun h2=>⟨rfl,aq (fun h3=>oE ?_ ?_) fun h3=>⟨rfl,aq (fun h4=>⟨hx,oE ?_ ?_⟩) fun h4=>oE ?_ ?_⟩⟩⟩⟩
  ·rw[if_pos h1,if_neg (by omega)]
  ·rw[if_pos h1,if_pos (by omega)]
  ·rw[if_pos h1,if_pos (by omega)]
  ·rw[if_pos h1,if_pos (by omega)]
  ·rw[if_pos h1,if_pos (by omega)]
  ·rw[if_neg h1,if_pos h2,if_neg (by rw[h3];decide)]
  ·rw[if_neg h1,if_pos h2,if_pos h3]
  ·rw[if_neg h1,if_pos h2,if_pos h3]
  ·rw[if_neg h1,if_neg h2]
  ·rw[if_neg h1,if_neg h2,if_pos h3]
  ·rw[if_neg h1,if_neg h2]
  ·rw[if_neg h1,if_neg h2,if_neg h3,if_pos h4]
  ·rw[if_neg h1,if_neg h2]
  ·rw[if_neg h1,if_neg h2,if_neg h3,if_neg h4]
 ·exact h.elim
theorem I4:∀ {f:FuncId} {vs:List V} {σ:St} {k:ai},ER f vs σ k→ag Tryz.prog f vs k σ:=fun h=>aD Vs I3 h
theorem Vt (h:QN vs σ k):ag Tryz.prog 254 vs k σ:=by
 unfold QN at h
 split at h
 ·rename_i x d
  obtain⟨⟨hx,hd⟩,h⟩:=h
  refine rN (aI (Go.Ev.Clean.int _ _) (aI (Go.Ev.Clean.int _ _) cM)) (F254.flat (live:=AR) (call:=ER) (n₀:=0) (σ:=Go.Ev.start) (fun h=>I4 h) rfl (by kernel_rfl) ?_) h
  have e0:∀x:Int,(x=0∨x=1)→d≠5→(0:Int)=ff x d:=fun x hx h1=>by
   unfold ff
   rw[if_neg (by omega)]
   split
   ·rw[if_pos (Yz hx)]
   ·rfl
  have e1:∀x:Int,d≠5→iO x d=cZ x d:=fun x h1=>by unfold iO;rw[if_neg h1]
  rcases hx with rfl | rfl
  ·rw[Yu]
   refine⟨rfl,aq (fun h1=>oE rfl ?_) fun h1=>⟨⟨⟨by decide,by decide⟩,by omega⟩,YA (e0 0 (.inl rfl) h1) (e1 0 h1)⟩⟩
   unfold iO;rw[if_pos h1];rfl
  ·rw[Yv]
   refine⟨rfl,aq (fun h1=>oE rfl ?_) fun h1=>⟨⟨⟨by decide,by decide⟩,by omega⟩,YA (e0 1 (.inr rfl) h1) (e1 1 h1)⟩⟩
   unfold iO;rw[if_pos h1];rfl
 ·exact h.elim
theorem I5:∀ {f:FuncId} {vs:List V} {σ:St} {k:ai},LF f vs σ k→ag Tryz.prog f vs k σ:=fun h=>aD Vt I4 h
theorem Vu (h:QO vs σ k):ag Tryz.prog 256 vs k σ:=by
 unfold QO at h
 split at h
 ·rename_i x d
  obtain⟨⟨hx,hd⟩,h⟩:=h
  refine rN (aI (Go.Ev.Clean.int _ _) (aI (Go.Ev.Clean.int _ _) cM)) (F256.flat (live:=IU) (call:=LF) (n₀:=0) (σ:=Go.Ev.start) (fun h=>I5 h) rfl (by kernel_rfl) ?_) h
  rw[agR]
  unfold kF iC
  refine⟨rfl,aq (fun h1=>oE ?_ ?_) fun h1=>⟨hx,vt (fun h3=>EU (by decide) ?_) fun h3=>⟨⟨Oa x,by omega⟩,YA ?_ ?_⟩⟩⟩
  ·rw[if_pos h1]
  ·rw[if_pos h1]
  ·rw[if_neg h1,if_neg (by rw[h3];decide)]
  ·rw[if_neg h1,if_pos h3]
  ·rw[if_neg h1,if_pos h3]
 ·exact h.elim
theorem I6:∀ {f:FuncId} {vs:List V} {σ:St} {k:ai},ES f vs σ k→ag Tryz.prog f vs k σ:=fun h=>aD Vu I5 h
theorem Vv (h:QQ vs σ k):ag Tryz.prog 257 vs k σ:=by
 unfold QQ at h
 split at h
 ·rename_i s d
  obtain⟨⟨hx,hd⟩,h⟩:=h
  refine rN (aI (Go.Ev.Clean.str _) (aI (Go.Ev.Clean.int _ _) cM)) (F257.bV (live:=AU) (call:=ES) (n₀:=0) (σ:=Go.Ev.start) (fun h=>I6 h) rfl 1 (by kernel_rfl) Nat.lt_wfRel.wf (fun _ ss=>8-bF ss) (fun j ss=>(d≠5∧s.length=8)∧YB s d j ss) ?_ ?_ ?_) h
  ·intro k ss hI
   cases k with
   | zero=>obtain⟨_,i,_,rfl⟩:=hI;exact ay (ay (N2 (ay (ay bg))))
   | succ k=>exact hI.2.elim
  ·rw[LG];unfold QP;rw[hL]
   unfold gw jG
   have fin:d≠5→s.length=8→(d≠5∧s.length=8)∧YB s d 0 [.val (.int .i64 d),.val (.int .u64 (0:Int)),.row s.length (dE s) 1,.val (.int .i64 ((s.length:Nat):Int)),.val (.int .i64 (0:Int))]:=fun h1 h2=>⟨⟨h1,h2⟩,0,by decide,by rw[hL,h2];rfl⟩
   have no:d≠5→s.length≠8→tc (if d=5 then(if dR s.length s=true then 0 else 7) else if s.length=8 then 0 else 6) (if d=5 then(if dR s.length s=true then⟨d,0,0,s⟩ else kh) else if s.length=8 then(if d=3 then⟨d,0,fG (ja s 8),[]⟩ else⟨d,IntKind.i64.wrap (ja s 8),0,[]⟩) else kh) (.func (.func 265) [] [.aQ [.int .i64 (6:Int)] 0]):=fun h1 h2=>EU (by decide) (by rw[if_neg h1,if_neg h2])
   repeat' first
    | exact fin (by omega) (by omega)
    | exact no (by omega) (by omega)
    | exact hx
    | omega
    | refine⟨rfl,aq (fun _=>?_) (fun _=>?_)⟩
    | refine vt (fun _=>?_) (fun _=>?_)
    | exact EU (by decide) (by rw[if_pos (by omega),if_neg (by simp only[*];decide)])
    | exact oE (by rw[if_pos (by omega),if_pos (by assumption)]) (by rw[if_pos (by omega),if_pos (by assumption)])
    | exact⟨rfl,rfl⟩
    | refine⟨?_,?_⟩
  ·intro k hk ss hI
   obtain rfl:k=0:=by omega
   obtain⟨⟨Of,h8⟩,i,hi,rfl⟩:=hI
   rw[agS,hL]
   refine⟨rfl,aq (fun h1=>⟨⟨by omega,by omega⟩,by omega,by decide,⟨rfl,rfl⟩,⟨⟨Of,h8⟩,i+1,by omega,?_⟩,?_⟩) fun h1=>?_⟩
   ·rw[cA,vu (rM i).1,i64_in ((i:Int)+1) (by omega),hL];rfl
   ·show 8-(IntKind.i64.wrap (((i:Nat):Int)+1)).toNat<8-(((i:Nat):Int)).toNat
    rw[i64_in ((i:Int)+1) (by omega)];omega
   ·obtain rfl:i=8:=by omega
    unfold gw jG
    refine⟨rfl,aq (fun h3=>⟨rM 8,oE ?_ ?_⟩) fun h3=>oE ?_ ?_⟩
    ·rw[if_neg Of,if_pos h8]
    ·rw[if_neg Of,if_pos h8,if_pos h3]
    ·rw[if_neg Of,if_pos h8]
    ·rw[if_neg Of,if_pos h8,if_neg h3]
 ·exact h.elim
theorem I7:∀ {f:FuncId} {vs:List V} {σ:St} {k:ai},xP f vs σ k→ag Tryz.prog f vs k σ:=fun h=>aD Vv I6 h
theorem Vw (h:QR vs σ k):ag Tryz.prog 258 vs k σ:=by
 unfold QR at h
 split at h
 ·rename_i s d
  obtain⟨⟨hx,hd⟩,h⟩:=h
  refine rN (aI (Go.Ev.Clean.str _) (aI (Go.Ev.Clean.int _ _) cM)) (F258.bV (live:=rL) (call:=xP) (n₀:=0) (σ:=Go.Ev.start) (fun h=>I7 h) rfl 1 (by kernel_rfl) Nat.lt_wfRel.wf (fun _ ss=>8-bF ss) (fun j ss=>d=1∧agW s d j ss) ?_ ?_ ?_) h
  ·intro k ss hI
   cases k with
   | zero=>obtain⟨_,i,_,_,_,rfl⟩:=hI;exact gv (ay (ax (Go.Ev.Clean.agg (aI (Go.Ev.Clean.str _) (aI (Go.Ev.Clean.str _) cM))) (ay bg)))
   | succ k=>exact hI.2.elim
  ·rw[agT]
   refine⟨rfl,aq (fun h1=>oE ?_ ?_) fun h1=>⟨rfl,aq (fun h2=>⟨h2,0,by decide,fun h=>absurd h (by decide),fun h=>absurd h (by decide),rfl⟩) fun h2=>⟨rfl,aq (fun h3=>EU h3 ?_) fun h3=>oE ?_ ?_⟩⟩⟩
   ·unfold iP;rw[if_pos h1]
   ·unfold hG;rw[if_pos h1]
   ·unfold iP;rw[if_neg h1,if_neg h2]
   ·unfold iP;rw[if_neg h1,if_neg h2];exact Classical.not_not.mp h3
   ·unfold hG;rw[if_neg h1,if_neg h2,if_pos (Classical.not_not.mp h3)]
  ·intro k hk ss hI
   obtain rfl:k=0:=by omega
   obtain⟨h1,i,hi,hf,ht,rfl⟩:=hI
   have h4:¬d=4:=by omega
   match i,hi,hf,ht with
   | 0,_,hf,ht=>
    refine(Yw _ _ s d).mpr ⟨rfl,aq (fun h2=>oE ?_ ?_) fun h2=>⟨⟨h1,1,by decide,fun _ c=>h2 c.symm,fun c=>absurd c (by decide),rfl⟩,(by show(8-1:Nat)<8-0;decide)⟩⟩
    ·unfold iP;rw[if_neg h4,if_pos h1,if_pos (.inr h2.symm)]
    ·unfold hG;rw[if_neg h4,if_pos h1,if_neg (by rw[←h2];decide),if_pos (show s=iB from h2.symm)]
   | 1,_,hf,ht=>
    refine(Yx _ _ s d).mpr ⟨rfl,aq (fun h2=>oE ?_ ?_) fun h2=>⟨⟨h1,2,by decide,fun _=>hf (by decide),fun _ c=>h2 c.symm,rfl⟩,(by show(8-2:Nat)<8-1;decide)⟩⟩
    ·unfold iP;rw[if_neg h4,if_pos h1,if_pos (.inl h2.symm)]
    ·unfold hG;rw[if_neg h4,if_pos h1,if_pos (show s=jv from h2.symm)]
   | 2,_,hf,ht=>
    refine(Yy _ _ s d).mpr ⟨rfl,EU (by decide) ?_⟩
    unfold iP;rw[if_neg h4,if_pos h1,if_neg (fun c:s=jv∨s=iB=>c.elim (ht (by decide)) (hf (by decide)))]
   | n+3,hi,_,_=>omega
 ·exact h.elim
theorem I8:∀ {f:FuncId} {vs:List V} {σ:St} {k:ai},LH f vs σ k→ag Tryz.prog f vs k σ:=fun h=>aD Vw I7 h
theorem Vx (h:QS vs σ k):ag Tryz.prog 228 vs k σ:=by
 unfold QS at h
 split at h
 ·rename_i a b c s d
  obtain⟨hv,h⟩:=h
  generalize hV:(⟨a,b,c,s⟩:aC)=v at *
  rw[show(V.agg [.int .i64 a,.int .i64 b,.int .u64 c,.str s])=aC.enc v by rw[←hV];rfl]
  refine ag.cb (ar (aC.aE v) (ar (Go.Ev.Clean.int _ _) aG)) vw (F228.flat (live:=IV) (call:=LH) (n₀:=0) (σ:=Go.Ev.start) (fun h=>I8 h) rfl (by kernel_rfl) ?_) h
  rw[agU]
  unfold jV EM
  refine⟨hv.1,rfl,aq (fun h1=>rP ?_ ?_) fun h1=>?_⟩
  ·rw[if_pos (show bj v≠0 from h1)];rfl
  ·rw[if_pos (show bj v≠0 from h1)]
  ·replace h1:¬bj v≠0:=h1
   rw[if_neg h1,if_neg h1]
   obtain⟨k1,k2,k3⟩:=xm (Classical.not_not.mp h1)
   refine⟨rfl,aq (fun h2=>rP ?_ ?_) fun h2=>⟨rfl,aq (fun h3=>rP ?_ ?_) fun h3=>?_⟩⟩
   ·rw[if_pos (.inl h2)];rfl
   ·rw[if_pos (.inl h2)]
   ·rw[if_pos (.inr h3)];rfl
   ·rw[if_pos (.inr h3)]
   ·have hd:¬(d<1∨d>5):=by omega
    rw[if_neg hd,if_neg hd]
    refine⟨rfl,aq (fun h4=>rP ?_ ?_) fun h4=>⟨rfl,aq (fun h5=>rP ?_ ?_) fun h5=>?_⟩⟩
    ·rw[if_pos (.inl h4)]
    ·rw[if_pos (.inl h4)]
    ·rw[if_pos (.inr h5)]
    ·rw[if_pos (.inr h5)]
    ·have Oc:¬(v.f0=0∨v.f0=d):=by omega
     rw[if_neg Oc,if_neg Oc]
     refine vt (fun h6=>rP ?_ ?_) fun h6=>?_
     ·rw[if_pos h6];rfl
     ·rw[if_pos h6]
     ·have hc:=ET.mp h6
      have Od:¬iY v.f0 d=false:=by rw[h6];decide
      rw[if_neg Od,if_neg Od]
      refine⟨rfl,aq (fun h7=>⟨⟨k2 h7,by omega⟩,?_⟩) fun h7=>⟨rfl,aq (fun h8=>⟨⟨hv.2,by omega⟩,?_⟩) fun h8=>⟨rfl,aq (fun h9=>⟨⟨hv.1,by omega⟩,?_⟩) fun h9=>⟨rfl,aq (fun lO=>⟨⟨k3,by omega⟩,?_⟩) fun lO=>⟨⟨k3,by omega⟩,?_⟩⟩⟩⟩⟩
      ·rw[if_pos h7,if_pos h7];exact Oe rfl rfl fun h=>(h rfl).elim
      ·rw[if_neg h7,if_neg h7,if_pos h8,if_pos h8];exact Oe rfl rfl AV
      ·rw[if_neg h7,if_neg h7,if_neg h8,if_neg h8,if_pos h9,if_pos h9];exact Oe rfl rfl EV
      ·rw[if_neg h7,if_neg h7,if_neg h8,if_neg h8,if_neg h9,if_neg h9,if_pos lO,if_pos lO];exact Oe rfl rfl B6
      ·rw[if_neg h7,if_neg h7,if_neg h8,if_neg h8,if_neg h9,if_neg h9,if_neg lO,if_neg lO];exact Oe rfl rfl EW
 ·exact h.elim
theorem I9:∀ {f:FuncId} {vs:List V} {σ:St} {k:ai},LI f vs σ k→ag Tryz.prog f vs k σ:=fun h=>aD Vx I8 h
end
end Go.Proofs.YtbajncpfmemdgaaGreatDoor
end
section
namespace Go.Proofs.YtbajncpfmemdgaaGreatDoor
open Go Go.Ev
noncomputable def wH (q:Nat→List UInt8):Nat→Bool
 | 0=>true
 | n+1=>wH q n&&(decide (n=0)|| !(Op.bytesLess (q n) (q (n-1))||q n==q (n-1)))
noncomputable def cn (l:List ae):Int:=
 if l.length>16 then 2 else if dy (fun i=>bK (l.getD i default)) l.length≠0 then dy (fun i=>bK (l.getD i default)) l.length
 else if wH (fun i=>(l.getD i default).f0) l.length=true then 0 else 12
noncomputable def aM (l:List ae) (s:List UInt8):Int:=bT s (fun i=>(l.getD i default).f0) l.length
def Og:Nat→List Nat:=(fun _=>[])
theorem e83 [Env] (A:Nat→List SV→Prop) (Q:V→Prop) (e:ae) (s:List UInt8):WE Tryz.prog 83 Tryz.f83 LI 0 Og A (fun v _=>Q v) [ae.enc e,.aQ [.str s] 0] Go.Ev.start=
  (aa (decide (e.f0=s)) (Q (.bool true)) (Q (.bool false))):=by kernel_rfl
def W83 [Env] (vs:List V) (σ:St) (k:ai):Prop:=
 ∃(e:ae) (s:List UInt8),vs=[ae.enc e,.aQ [.str s] 0]∧k (.bool (decide (e.f0=s))) σ
def EX [Env]:=kS 83 W83 LI
def EY:Nat→List Nat:=(fun i=>match i with | 0=>[0,1,7,8] | _=>[])
theorem e82 [Env] (A:Nat→List SV→Prop) (Q:V→Prop) (l:List ae) (s:List UInt8):WE Tryz.prog 82 Tryz.f82 EX 0 EY A (fun v _=>Q v) [af ae.enc 3 l,.func (.func 83) [] [.aQ [.str s] 0]] Go.Ev.start=
  (A 0 [.val (af ae.enc 3 l),.val (.func (.func 83) [] [.aQ [.str s] 0]),.val (.int .i64 (((l.length:Nat):Int))),.val (.int .i64 (0:Int))]):=by kernel_rfl
theorem r82 [Env] (A:Nat→List SV→Prop) (Q:V→Prop) (l:List ae) (s:List UInt8) (m i:Int):WL Tryz.prog 82 Tryz.f82 EX 0 EY A (fun v _=>Q v) 0 [.val (af ae.enc 3 l),.val (.func (.func 83) [] [.aQ [.str s] 0]),.val (.int .i64 m),.val (.int .i64 i)]=
  (((.i64:IntKind)=.i64∧aa (decide (i<m)) (((0≤i∧i<((l.length:Nat):Int))∧(∃(q24:ae) (s25:List UInt8),[ae.enc (l.getD i.toNat default),.aQ [.str s] 0]=[ae.enc q24,.aQ [.str s25] 0]∧aa ((decide (q24.f0=s25))) (Q (.int .i64 i)) (A 0 [.val (af ae.enc 3 l),.val (.func (.func 83) [] [.aQ [.str s] 0]),.val (.int .i64 m),.val (.int .i64 (IntKind.i64.wrap (i+(1:Int))))])))) (Q (.int .i64 (-1:Int))))):=by kernel_rfl
def W82 [Env] (vs:List V) (σ:St) (k:ai):Prop:=
 ∃(l:List ae) (s:List UInt8),bA σ vs [af ae.enc 3 l,.func (.func 83) [] [.aQ [.str s] 0]]∧l.length≤1000000∧k (.int .i64 (aM l s)) σ
def LK [Env]:=kS 82 W82 EX
def Oh:Nat→List Nat:=(fun _=>[])
theorem e40 [Env] (A:Nat→List SV→Prop) (Q:V→Prop) (l:List ae) (s:List UInt8):WE Tryz.prog 40 Tryz.f40 LK 0 Oh A (fun v _=>Q v) [af ae.enc 3 l,.str s] Go.Ev.start=
  ((∃(YC:List ae) (s27:List UInt8),bA ⟨(St.new Go.Ev.start 0 (.cells 1 [] (ah [.str s] .leaf 0) true false)).heap,1⟩ [af ae.enc 3 l,.func (.func 83) [] [.ptr 0 0]] [af ae.enc 3 YC,.func (.func 83) [] [.aQ [.str s27] 0]]∧YC.length≤1000000∧Q (.int .i64 (aM YC s27)))):=by kernel_rfl
def W40 [Env] (vs:List V) (σ:St) (k:ai):Prop:=
 ∃(l:List ae) (s:List UInt8),vs=[af ae.enc 3 l,.str s]∧l.length≤1000000∧k (.int .i64 (aM l s)) σ
def EZ [Env]:=kS 40 W40 LK
def E0:Nat→List Nat:=(fun i=>match i with | 0=>[0,1,5] | _=>[])
theorem e41 [Env] (A:Nat→List SV→Prop) (Q:V→Prop) (l:List ae) (s:List UInt8):WE Tryz.prog 41 Tryz.f41 EZ 0 E0 A (fun v _=>Q v) [af ae.enc 3 l,.str s] Go.Ev.start=
  (A 0 [.val (af ae.enc 3 l),.val (.str s),.val (.int .i64 (0:Int))]):=by kernel_rfl
theorem r41 [Env] (A:Nat→List SV→Prop) (Q:V→Prop) (l:List ae) (s:List UInt8) (i:Int):WL Tryz.prog 41 Tryz.f41 EZ 0 E0 A (fun v _=>Q v) 0 [.val (af ae.enc 3 l),.val (.str s),.val (.int .i64 i)]=
  (((.i64:IntKind)=.i64∧aa (decide (i<(((l.length:Nat):Int)))) (((0≤i∧i<((l.length:Nat):Int))∧aa (decide ((l.getD i.toNat default).f0=s)) (Q (.int .i64 i)) (A 0 [.val (af ae.enc 3 l),.val (.str s),.val (.int .i64 (IntKind.i64.wrap (i+(1:Int))))]))) (Q (.int .i64 (-1:Int))))):=by kernel_rfl
def W41 [Env] (vs:List V) (σ:St) (k:ai):Prop:=
 ∃(l:List ae) (s:List UInt8),vs=[af ae.enc 3 l,.str s]∧l.length≤1000000∧k (.int .i64 (aM l s)) σ
def AW [Env]:=kS 41 W41 EZ
def zm:Nat→List Nat:=(fun i=>match i with | 0=>[0,10,11,12] | 1=>[0,23,24] | _=>[])
theorem TH [Env] (A:Nat→List SV→Prop) (Q:V→Prop) (l:List ae):WE Tryz.prog 38 Tryz.f38 AW 0 zm A (fun v _=>Q v) [af ae.enc 3 l] Go.Ev.start=
  (((.i64:IntKind)=.i64∧aa (decide ((((l.length:Nat):Int))>(16:Int))) (Q (.int .i64 (2:Int))) (A 0 [.val (af ae.enc 3 l),.val (af ae.enc 3 l),.val (.int .i64 (((l.length:Nat):Int))),.val (.int .i64 (0:Int))]))):=by kernel_rfl
theorem agY [Env] (A:Nat→List SV→Prop) (Q:V→Prop) (l:List ae) (m i:Int):WL Tryz.prog 38 Tryz.f38 AW 0 zm A (fun v _=>Q v) 0 [.val (af ae.enc 3 l),.val (af ae.enc 3 l),.val (.int .i64 m),.val (.int .i64 i)]=
  (((.i64:IntKind)=.i64∧aa (decide (i<m)) (((0≤i∧i<((l.length:Nat):Int))∧(∃TJ:ae,[.agg [.str ((l.getD i.toNat default).f0),.int .i64 ((l.getD i.toNat default).f1),af ak.enc 7 ((l.getD i.toNat default).f2)]]=[ae.enc TJ]∧eX TJ∧((.i64:IntKind)=.i64∧aa (decide ((bK TJ)≠(0:Int))) (Q (.int .i64 (bK TJ))) (A 0 [.val (af ae.enc 3 l),.val (af ae.enc 3 l),.val (.int .i64 m),.val (.int .i64 (IntKind.i64.wrap (i+(1:Int))))]))))) (A 1 [.val (af ae.enc 3 l),.val (.int .i64 (((l.length:Nat):Int))),.val (.int .i64 (0:Int))]))):=by kernel_rfl
theorem agZ [Env] (A:Nat→List SV→Prop) (Q:V→Prop) (l:List ae) (m i:Int):WL Tryz.prog 38 Tryz.f38 AW 0 zm A (fun v _=>Q v) 1 [.val (af ae.enc 3 l),.val (.int .i64 m),.val (.int .i64 i)]=
  (((.i64:IntKind)=.i64∧aa (decide (i<m)) (((.i64:IntKind)=.i64∧aa (decide (i>(0:Int))) (((0≤i∧i<((l.length:Nat):Int))∧((0≤(IntKind.i64.wrap (i-(1:Int)))∧(IntKind.i64.wrap (i-(1:Int)))<((l.length:Nat):Int))∧aa ((Op.bytesLess ((l.getD i.toNat default).f0) ((l.getD (IntKind.i64.wrap (i-(1:Int))).toNat default).f0)||((l.getD i.toNat default).f0)==((l.getD (IntKind.i64.wrap (i-(1:Int))).toNat default).f0))) (Q (.int .i64 (12:Int))) (A 1 [.val (af ae.enc 3 l),.val (.int .i64 m),.val (.int .i64 (IntKind.i64.wrap (i+(1:Int))))])))) (A 1 [.val (af ae.enc 3 l),.val (.int .i64 m),.val (.int .i64 (IntKind.i64.wrap (i+(1:Int))))]))) (Q (.int .i64 (0:Int))))):=by kernel_rfl
def W38 [Env] (vs:List V) (σ:St) (k:ai):Prop:=
 ∃l:List ae,vs=[af ae.enc 3 l]∧(∀t∈l,eX t)∧k (.int .i64 (cn l)) σ
def AX [Env]:=kS 38 W38 AW
def zn:Nat→List Nat:=(fun i=>match i with | 0=>[0,3] | 1=>[0,5] | _=>[])
theorem e39 [Env] (A:Nat→List SV→Prop) (Q:V→Prop) (l:List ae):WE Tryz.prog 39 Tryz.f39 AX 0 zn A (fun v _=>Q v) [af ae.enc 3 l] Go.Ev.start=
  (((.i64:IntKind)=.i64∧aa (decide ((((l.length:Nat):Int))>(16:Int))) (Q (.int .i64 (2:Int))) (A 0 [.val (af ae.enc 3 l),.val (.int .i64 (0:Int))]))):=by kernel_rfl
theorem ag0 [Env] (A:Nat→List SV→Prop) (Q:V→Prop) (l:List ae) (i:Int):WL Tryz.prog 39 Tryz.f39 AX 0 zn A (fun v _=>Q v) 0 [.val (af ae.enc 3 l),.val (.int .i64 i)]=
  (((.i64:IntKind)=.i64∧aa (decide (i<(((l.length:Nat):Int)))) (((0≤i∧i<((l.length:Nat):Int))∧(∃TK:ae,[ae.enc (l.getD i.toNat default)]=[ae.enc TK]∧eX TK∧((.i64:IntKind)=.i64∧aa (decide ((bK TK)≠(0:Int))) (Q (.int .i64 (bK TK))) (A 0 [.val (af ae.enc 3 l),.val (.int .i64 (IntKind.i64.wrap (i+(1:Int))))]))))) (A 1 [.val (af ae.enc 3 l),.val (.int .i64 (1:Int))]))):=by kernel_rfl
theorem ag1 [Env] (A:Nat→List SV→Prop) (Q:V→Prop) (l:List ae) (i:Int):WL Tryz.prog 39 Tryz.f39 AX 0 zn A (fun v _=>Q v) 1 [.val (af ae.enc 3 l),.val (.int .i64 i)]=
  (((.i64:IntKind)=.i64∧aa (decide (i<(((l.length:Nat):Int)))) (((0≤i∧i<((l.length:Nat):Int))∧((0≤(IntKind.i64.wrap (i-(1:Int)))∧(IntKind.i64.wrap (i-(1:Int)))<((l.length:Nat):Int))∧aa ((Op.bytesLess ((l.getD i.toNat default).f0) ((l.getD (IntKind.i64.wrap (i-(1:Int))).toNat default).f0)||((l.getD i.toNat default).f0)==((l.getD (IntKind.i64.wrap (i-(1:Int))).toNat default).f0))) (Q (.int .i64 (12:Int))) (A 1 [.val (af ae.enc 3 l),.val (.int .i64 (IntKind.i64.wrap (i+(1:Int))))])))) (Q (.int .i64 (0:Int))))):=by kernel_rfl
def W39 [Env] (vs:List V) (σ:St) (k:ai):Prop:=
 ∃l:List ae,vs=[af ae.enc 3 l]∧(∀t∈l,eX t)∧k (.int .i64 (cn l)) σ
def LL [Env]:=kS 39 W39 AX
end Go.Proofs.YtbajncpfmemdgaaGreatDoor
end
