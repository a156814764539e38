/- Proved: parts of the way: BEq13, BEq14, BEq15, BC4, BC5, BEq16, BEq17. -/
import Derived.Test.YtbajncpfmemdgaaGreatDoorEvQ16
set_option linter.unusedVariables false
set_option linter.unusedSimpArgs false
section
namespace Go.Proofs.YtbajncpfmemdgaaGreatDoor
open Go Go.Ev
def sU (v:ay):Prop:=zr v∧dH v.f1
def l4:ay:=⟨0,0,0,[]⟩
def iq (n d:Int):Int:=if d=1 then(if n=0∨n=1 then 0 else 6) else if d=3 then(if sy n=true then 0 else 6) else 0
def ft (n d:Int):ay:=
 if d=1 then(if n=0∨n=1 then⟨d,n,0,[]⟩ else l4) else if d=3 then(if sy n=true then⟨d,0,q4 n,[]⟩ else l4)
 else if d=4 then⟨d,0,0,ny (IntKind.u64.wrap n) 8⟩ else if d=5 then⟨d,0,0,gx n⟩ else⟨d,n,0,[]⟩
def q9:List UInt8:=[102,97,108,115,101]
def vw:List UInt8:=[116,114,117,101]
def kA (n d:Int):ay:=if d=5 then(if n=1 then⟨d,0,0,vw⟩ else⟨d,0,0,q9⟩) else ft n d
noncomputable def pQ (b d:Int):Int:=if d=4 then 0 else if wJ b=true then iq (l3 b) d else 6
noncomputable def l5 (b d:Int):ay:=if d=4 then⟨d,0,0,ny b 8⟩ else if wJ b=true then ft (l3 b) d else l4
noncomputable def l6 (s:List UInt8) (d:Int):Int:=if d=5 then(if eU s.length s=true then 0 else 7) else if s.length=8 then 0 else 6
noncomputable def je (s:List UInt8) (d:Int):ay:=
 if d=5 then(if eU s.length s=true then⟨d,0,0,s⟩ else l4) else if s.length=8 then(if d=3 then⟨d,0,dR (l0 s 8),[]⟩ else⟨d,IntKind.i64.wrap (l0 s 8),0,[]⟩) else l4
noncomputable def jV (s:List UInt8) (d:Int):Int:=if d=4 then 0 else if d=1 then(if s=vw∨s=q9 then 0 else 7) else jL s
noncomputable def jo (s:List UInt8) (d:Int):ay:=if d=4 then⟨d,0,0,s⟩ else if d=1 then(if s=vw then⟨d,1,0,[]⟩ else if s=q9 then⟨d,0,0,[]⟩ else l4) else if jL s=0 then⟨d,kP s,0,[]⟩ else l4
noncomputable def YA (v:ay) (d:Int):Int:=
 if bZ v≠0 then bZ v else if d<1∨d>5 then 5 else if v.f0=0∨v.f0=d then 0 else if il v.f0 d=false then 5
 else if v.f0=1 then 0 else if v.f0=2 then iq v.f1 d else if v.f0=3 then pQ v.f2 d else if v.f0=4 then l6 v.f3 d else jV v.f3 d
noncomputable def uc (v:ay) (d:Int):ay:=
 if bZ v≠0 then l4 else if d<1∨d>5 then l4 else if v.f0=0∨v.f0=d then v else if il v.f0 d=false then l4
 else if v.f0=1 then kA v.f1 d else if v.f0=2 then ft v.f1 d else if v.f0=3 then l5 v.f2 d else if v.f0=4 then je v.f3 d else jo v.f3 d
def Pq (v:ay):V:=.func (.func 266) [] [.aM [.int .i64 v.f0,.int .i64 v.f1,.int .u64 v.f2,.str v.f3] 0]
def FN (e:Int):V:=.func (.func 265) [] [.aM [.int .i64 e] 0]
def vz (e:Int) (v:ay) (σ:St) (k:ah):Prop:=(e=0→k (Pq v) σ)∧(e≠0→k (FN e) σ)
end Go.Proofs.YtbajncpfmemdgaaGreatDoor
end
section
namespace Go.Proofs.YtbajncpfmemdgaaGreatDoor
open Go Go.Ev
end Go.Proofs.YtbajncpfmemdgaaGreatDoor
end
section
namespace Go.Proofs.YtbajncpfmemdgaaGreatDoor
open Go Go.Ev
def FO:Nat→List Nat:=(fun _=>[])
theorem aaO [Env] (A:Nat→List SV→Prop) (Q:V→Prop) (x d:Int):WE Tryz.prog 255 Tryz.f255 Im 0 FO A (fun v _=>Q v) [.int .i64 x,.int .i64 d] Go.Ev.start=
  (((.i64:IntKind)=.i64∧af (decide (d=(1:Int))) (((.i64:IntKind)=.i64∧af (decide (x≠(0:Int))) (((.i64:IntKind)=.i64∧af (decide (x≠(1:Int))) (Q (.func (.func 265) [] [.aM [.int .i64 (6:Int)] 0])) (Q (.func (.func 266) [] [.aM [.int .i64 d,.int .i64 x,.int .u64 (0:Int),.str ([])] 0])))) (Q (.func (.func 266) [] [.aM [.int .i64 d,.int .i64 x,.int .u64 (0:Int),.str ([])] 0])))) (((.i64:IntKind)=.i64∧af (decide (d=(3:Int))) ((dH x∧af ((!(sy x))) (Q (.func (.func 265) [] [.aM [.int .i64 (6:Int)] 0])) (Q (.func (.func 266) [] [.aM [.int .i64 d,.int .i64 (0:Int),.int .u64 (q4 x),.str ([])] 0])))) (((.i64:IntKind)=.i64∧af (decide (d=(4:Int))) (Q (.func (.func 266) [] [.aM [.int .i64 d,.int .i64 (0:Int),.int .u64 (0:Int),.str (ny (IntKind.u64.wrap x) 8)] 0])) (((.i64:IntKind)=.i64∧af (decide (d=(5:Int))) ((dH x∧Q (.func (.func 266) [] [.aM [.int .i64 d,.int .i64 (0:Int),.int .u64 (0:Int),.str (gx x)] 0]))) (Q (.func (.func 266) [] [.aM [.int .i64 d,.int .i64 x,.int .u64 (0:Int),.str ([])] 0])))))))))):=by kernel_rfl
def MU [Env] (vs:List V) (σ:St) (k:ah):Prop:=
 match vs with
 | [.int .i64 x,.int .i64 d]=>((dH x∧(d=1∨d=2∨d=3∨d=4∨d=5)))∧vz (iq x d) (ft x d) σ k
 | _=>False
def C0 [Env]:=kS 255 MU Im
def zK:Nat→List Nat:=(fun _=>[])
theorem Tw [Env] (A:Nat→List SV→Prop) (Q:V→Prop) (d:Int):WE Tryz.prog 254 Tryz.f254 C0 0 zK A (fun v _=>Q v) [.int .i64 (0:Int),.int .i64 d] Go.Ev.start=
  (((.i64:IntKind)=.i64∧af (decide (d=(5:Int))) (Q (.func (.func 266) [] [.aM [.int .i64 d,.int .i64 (0:Int),.int .u64 (0:Int),.str ([102,97,108,115,101])] 0])) (((dH (0:Int)∧(d=1∨d=2∨d=3∨d=4∨d=5))∧((iq (0:Int) d=0→Q (.func (.func 266) [] [.aM [.int .i64 ((ft (0:Int) d).f0),.int .i64 ((ft (0:Int) d).f1),.int .u64 ((ft (0:Int) d).f2),.str ((ft (0:Int) d).f3)] 0]))∧(iq (0:Int) d≠0→Q (.func (.func 265) [] [.aM [.int .i64 (iq (0:Int) d)] 0]))))))):=by kernel_rfl
theorem Tx [Env] (A:Nat→List SV→Prop) (Q:V→Prop) (d:Int):WE Tryz.prog 254 Tryz.f254 C0 0 zK A (fun v _=>Q v) [.int .i64 (1:Int),.int .i64 d] Go.Ev.start=
  (((.i64:IntKind)=.i64∧af (decide (d=(5:Int))) (Q (.func (.func 266) [] [.aM [.int .i64 d,.int .i64 (0:Int),.int .u64 (0:Int),.str ([116,114,117,101])] 0])) (((dH (1:Int)∧(d=1∨d=2∨d=3∨d=4∨d=5))∧((iq (1:Int) d=0→Q (.func (.func 266) [] [.aM [.int .i64 ((ft (1:Int) d).f0),.int .i64 ((ft (1:Int) d).f1),.int .u64 ((ft (1:Int) d).f2),.str ((ft (1:Int) d).f3)] 0]))∧(iq (1:Int) d≠0→Q (.func (.func 265) [] [.aM [.int .i64 (iq (1:Int) d)] 0]))))))):=by kernel_rfl
def MV [Env] (vs:List V) (σ:St) (k:ah):Prop:=
 match vs with
 | [.int .i64 x,.int .i64 d]=>(((x=0∨x=1)∧(d=2∨d=3∨d=5)))∧vz ((0:Int)) (kA x d) σ k
 | _=>False
def Io [Env]:=kS 254 MV C0
def FP:Nat→List Nat:=(fun _=>[])
theorem aaP [Env] (A:Nat→List SV→Prop) (Q:V→Prop) (x d:Int):WE Tryz.prog 256 Tryz.f256 Io 0 FP A (fun v _=>Q v) [.int .u64 x,.int .i64 d] Go.Ev.start=
  (((.i64:IntKind)=.i64∧af (decide (d=(4:Int))) (Q (.func (.func 266) [] [.aM [.int .i64 d,.int .i64 (0:Int),.int .u64 (0:Int),.str (ny x 8)] 0])) ((yF x∧af ((!(wJ x))) (Q (.func (.func 265) [] [.aM [.int .i64 (6:Int)] 0])) (((dH (l3 x)∧(d=1∨d=2∨d=3∨d=4∨d=5))∧((iq (l3 x) d=0→Q (.func (.func 266) [] [.aM [.int .i64 ((ft (l3 x) d).f0),.int .i64 ((ft (l3 x) d).f1),.int .u64 ((ft (l3 x) d).f2),.str ((ft (l3 x) d).f3)] 0]))∧(iq (l3 x) d≠0→Q (.func (.func 265) [] [.aM [.int .i64 (iq (l3 x) d)] 0]))))))))):=by kernel_rfl
def MW [Env] (vs:List V) (σ:St) (k:ah):Prop:=
 match vs with
 | [.int .u64 x,.int .i64 d]=>((yF x∧(d=1∨d=2∨d=4)))∧vz (pQ x d) (l5 x d) σ k
 | _=>False
def C1 [Env]:=kS 256 MW Io
def zL:Nat→List Nat:=(fun i=>match i with | 0=>[1,5,30,31,32] | _=>[])
abbrev Ty [Env] (A:Nat→List SV→Prop) (Q:V→Prop) (s:List UInt8) (d:Int):Prop:=
 ((.i64:IntKind)=.i64∧af (decide (d=(5:Int))) (Q (.func (.func 266) [] [.aM [.int .i64 d,.int .i64 (0:Int),.int .u64 (0:Int),.str s] 0])) (((.i64:IntKind)=.i64∧af (decide ((((len s:Nat):Int))≠(8:Int))) (Q (.func (.func 265) [] [.aM [.int .i64 (6:Int)] 0])) ((len s≤1099511627776∧(((len s)=(len s)∧1=1)∧A 0 [.val (.int .i64 d),.val (.int .u64 (0:Int)),.row (len s) (dx s) 1,.val (.int .i64 (((len s:Nat):Int))),.val (.int .i64 (0:Int))]))))))
theorem aaQ [Env] (A:Nat→List SV→Prop) (Q:V→Prop) (s:List UInt8) (d:Int):WE Tryz.prog 257 Tryz.f257 C1 0 zL A (fun v _=>Q v) [.str s,.int .i64 d] Go.Ev.start=
  (((.i64:IntKind)=.i64∧af (decide (d=(5:Int))) ((s.length≤64∧af ((!(eU s.length s))) (Q (.func (.func 265) [] [.aM [.int .i64 (7:Int)] 0])) ((Ty A Q s d)))) ((Ty A Q s d)))):=by kernel_rfl
theorem aaR [Env] (A:Nat→List SV→Prop) (Q:V→Prop) (t:List UInt8) (d n m i:Int):WL Tryz.prog 257 Tryz.f257 C1 0 zL A (fun v _=>Q v) 0 [.val (.int .i64 d),.val (.int .u64 n),.row (len t) (dx t) 1,.val (.int .i64 m),.val (.int .i64 i)]=
  (((.i64:IntKind)=.i64∧af (decide (i<m)) (((0≤i∧i<((len t:Nat):Int))∧(i.toNat<len t∧(0≤(8:Int)∧(((len t)=(len t)∧1=1)∧A 0 [.val (.int .i64 d),.val (.int .u64 (IntKind.u64.wrap (BitVec.ofInt IntKind.u64.bits (IntKind.u64.wrap (n*2^min (8:Int).toNat IntKind.u64.bits))||| BitVec.ofInt IntKind.u64.bits (IntKind.u64.wrap (aH t i.toNat))).toNat)),.row (len t) (dx t) 1,.val (.int .i64 m),.val (.int .i64 (IntKind.i64.wrap (i+(1:Int))))]))))) (((.i64:IntKind)=.i64∧af (decide (d=(3:Int))) (((0≤n∧n<18446744073709551616)∧Q (.func (.func 266) [] [.aM [.int .i64 d,.int .i64 (0:Int),.int .u64 (dR n),.str ([])] 0]))) (Q (.func (.func 266) [] [.aM [.int .i64 d,.int .i64 (IntKind.i64.wrap n),.int .u64 (0:Int),.str ([])] 0])))))):=by kernel_rfl
def MX [Env] (vs:List V) (σ:St) (k:ah):Prop:=
 match vs with
 | [.str x,.int .i64 d]=>((x.length≤64∧(d=2∨d=3∨d=5)))∧vz (l6 x d) (je x d) σ k
 | _=>False
def xf [Env]:=kS 257 MX C1
def ra:Nat→List Nat:=(fun i=>match i with | 0=>[0,1,18,19] | _=>[])
theorem aaS [Env] (A:Nat→List SV→Prop) (Q:V→Prop) (s:List UInt8) (d:Int):WE Tryz.prog 258 Tryz.f258 xf 0 ra A (fun v _=>Q v) [.str s,.int .i64 d] Go.Ev.start=
  (((.i64:IntKind)=.i64∧af (decide (d=(4:Int))) (Q (.func (.func 266) [] [.aM [.int .i64 d,.int .i64 (0:Int),.int .u64 (0:Int),.str s] 0])) (((.i64:IntKind)=.i64∧af (decide (d=(1:Int))) (A 0 [.val (.str s),.val (.int .i64 d),.val (.agg [.str ([102,97,108,115,101]),.str ([116,114,117,101])]),.val (.int .i64 (0:Int))]) (((.i64:IntKind)=.i64∧af (decide ((jL s)≠(0:Int))) (Q (.func (.func 265) [] [.aM [.int .i64 (jL s)] 0])) (Q (.func (.func 266) [] [.aM [.int .i64 d,.int .i64 (kP s),.int .u64 (0:Int),.str ([])] 0])))))))):=by kernel_rfl
theorem Tz [Env] (A:Nat→List SV→Prop) (Q:V→Prop) (s:List UInt8) (d:Int):WL Tryz.prog 258 Tryz.f258 xf 0 ra A (fun v _=>Q v) 0 [.val (.str s),.val (.int .i64 d),.val (.agg [.str ([102,97,108,115,101]),.str ([116,114,117,101])]),.val (.int .i64 (0:Int))]=
  (((.i64:IntKind)=.i64∧af (decide ([102,97,108,115,101]=s)) (Q (.func (.func 266) [] [.aM [.int .i64 d,.int .i64 (0:Int),.int .u64 (0:Int),.str ([])] 0])) (A 0 [.val (.str s),.val (.int .i64 d),.val (.agg [.str ([102,97,108,115,101]),.str ([116,114,117,101])]),.val (.int .i64 (1:Int))]))):=by kernel_rfl
theorem TA [Env] (A:Nat→List SV→Prop) (Q:V→Prop) (s:List UInt8) (d:Int):WL Tryz.prog 258 Tryz.f258 xf 0 ra A (fun v _=>Q v) 0 [.val (.str s),.val (.int .i64 d),.val (.agg [.str ([102,97,108,115,101]),.str ([116,114,117,101])]),.val (.int .i64 (1:Int))]=
  (((.i64:IntKind)=.i64∧af (decide ([116,114,117,101]=s)) (Q (.func (.func 266) [] [.aM [.int .i64 d,.int .i64 (1:Int),.int .u64 (0:Int),.str ([])] 0])) (A 0 [.val (.str s),.val (.int .i64 d),.val (.agg [.str ([102,97,108,115,101]),.str ([116,114,117,101])]),.val (.int .i64 (2:Int))]))):=by kernel_rfl
theorem TB [Env] (A:Nat→List SV→Prop) (Q:V→Prop) (s:List UInt8) (d:Int):WL Tryz.prog 258 Tryz.f258 xf 0 ra A (fun v _=>Q v) 0 [.val (.str s),.val (.int .i64 d),.val (.agg [.str ([102,97,108,115,101]),.str ([116,114,117,101])]),.val (.int .i64 (2:Int))]=
  (((.i64:IntKind)=.i64∧Q (.func (.func 265) [] [.aM [.int .i64 (7:Int)] 0]))):=by kernel_rfl
def MY [Env] (vs:List V) (σ:St) (k:ah):Prop:=
 match vs with
 | [.str x,.int .i64 d]=>((x.length≤64∧(d=1∨d=2∨d=4)))∧vz (jV x d) (jo x d) σ k
 | _=>False
def Ip [Env]:=kS 258 MY xf
def FQ:Nat→List Nat:=(fun _=>[])
theorem aaT [Env] (A:Nat→List SV→Prop) (Q:V→Prop) (v:ay) (d:Int):WE Tryz.prog 228 Tryz.f228 Ip 0 FQ A (fun v _=>Q v) [ay.enc v,.int .i64 d] Go.Ev.start=
  (((0≤v.f2∧v.f2<18446744073709551616)∧((.i64:IntKind)=.i64∧af (decide ((bZ ⟨v.f0,v.f1,v.f2,v.f3⟩)≠(0:Int))) (Q (.tuple [.agg [.int .i64 (0:Int),.int .i64 (0:Int),.int .u64 (0:Int),.str ([])],.int .i64 (bZ ⟨v.f0,v.f1,v.f2,v.f3⟩)])) (((.i64:IntKind)=.i64∧af (decide (d<(1:Int))) (Q (.tuple [.agg [.int .i64 (0:Int),.int .i64 (0:Int),.int .u64 (0:Int),.str ([])],.int .i64 (5:Int)])) (((.i64:IntKind)=.i64∧af (decide (d>(5:Int))) (Q (.tuple [.agg [.int .i64 (0:Int),.int .i64 (0:Int),.int .u64 (0:Int),.str ([])],.int .i64 (5:Int)])) (((.i64:IntKind)=.i64∧af (decide (v.f0=(0:Int))) (Q (.tuple [.agg [.int .i64 v.f0,.int .i64 v.f1,.int .u64 v.f2,.str v.f3],.int .i64 (0:Int)])) (((.i64:IntKind)=.i64∧af (decide (v.f0=d)) (Q (.tuple [.agg [.int .i64 v.f0,.int .i64 v.f1,.int .u64 v.f2,.str v.f3],.int .i64 (0:Int)])) (af ((!(il v.f0 d))) (Q (.tuple [.agg [.int .i64 (0:Int),.int .i64 (0:Int),.int .u64 (0:Int),.str ([])],.int .i64 (5:Int)])) (((.i64:IntKind)=.i64∧af (decide (v.f0=(1:Int))) ((((v.f1=0∨v.f1=1)∧(d=2∨d=3∨d=5))∧(((0:Int)=0→Q (.tuple [.agg [.int .i64 ((kA v.f1 d).f0),.int .i64 ((kA v.f1 d).f1),.int .u64 ((kA v.f1 d).f2),.str ((kA v.f1 d).f3)],.int .i64 (0:Int)]))∧((0:Int)≠0→Q (.tuple [.agg [.int .i64 (0:Int),.int .i64 (0:Int),.int .u64 (0:Int),.str ([])],.int .i64 ((0:Int))]))))) (((.i64:IntKind)=.i64∧af (decide (v.f0=(2:Int))) (((dH v.f1∧(d=1∨d=2∨d=3∨d=4∨d=5))∧((iq v.f1 d=0→Q (.tuple [.agg [.int .i64 ((ft v.f1 d).f0),.int .i64 ((ft v.f1 d).f1),.int .u64 ((ft v.f1 d).f2),.str ((ft v.f1 d).f3)],.int .i64 (0:Int)]))∧(iq v.f1 d≠0→Q (.tuple [.agg [.int .i64 (0:Int),.int .i64 (0:Int),.int .u64 (0:Int),.str ([])],.int .i64 (iq v.f1 d)]))))) (((.i64:IntKind)=.i64∧af (decide (v.f0=(3:Int))) (((yF v.f2∧(d=1∨d=2∨d=4))∧((pQ v.f2 d=0→Q (.tuple [.agg [.int .i64 ((l5 v.f2 d).f0),.int .i64 ((l5 v.f2 d).f1),.int .u64 ((l5 v.f2 d).f2),.str ((l5 v.f2 d).f3)],.int .i64 (0:Int)]))∧(pQ v.f2 d≠0→Q (.tuple [.agg [.int .i64 (0:Int),.int .i64 (0:Int),.int .u64 (0:Int),.str ([])],.int .i64 (pQ v.f2 d)]))))) (((.i64:IntKind)=.i64∧af (decide (v.f0=(4:Int))) (((v.f3.length≤64∧(d=2∨d=3∨d=5))∧((l6 v.f3 d=0→Q (.tuple [.agg [.int .i64 ((je v.f3 d).f0),.int .i64 ((je v.f3 d).f1),.int .u64 ((je v.f3 d).f2),.str ((je v.f3 d).f3)],.int .i64 (0:Int)]))∧(l6 v.f3 d≠0→Q (.tuple [.agg [.int .i64 (0:Int),.int .i64 (0:Int),.int .u64 (0:Int),.str ([])],.int .i64 (l6 v.f3 d)]))))) (((v.f3.length≤64∧(d=1∨d=2∨d=4))∧((jV v.f3 d=0→Q (.tuple [.agg [.int .i64 ((jo v.f3 d).f0),.int .i64 ((jo v.f3 d).f1),.int .u64 ((jo v.f3 d).f2),.str ((jo v.f3 d).f3)],.int .i64 (0:Int)]))∧(jV v.f3 d≠0→Q (.tuple [.agg [.int .i64 (0:Int),.int .i64 (0:Int),.int .u64 (0:Int),.str ([])],.int .i64 (jV v.f3 d)]))))))))))))))))))))))))):=by kernel_rfl
def MZ [Env] (vs:List V) (σ:St) (k:ah):Prop:=
 match vs with
 | [.agg [.int .i64 a,.int .i64 b,.int .u64 c,.str s],.int .i64 d]=>sU ⟨a,b,c,s⟩∧k (.tuple [ay.enc (uc ⟨a,b,c,s⟩ d),.int .i64 (YA ⟨a,b,c,s⟩ d)]) σ
 | _=>False
def Iq [Env]:=kS 228 MZ Ip
end Go.Proofs.YtbajncpfmemdgaaGreatDoor
end
section
namespace Go.Proofs.YtbajncpfmemdgaaGreatDoor
open Go Go.Ev Go.IntWalk Go.Ev.Flt
theorem Ir {b:Bool} {Y Z:Prop} (y:b=false→Y) (z:b=true→Z):af (!b) Y Z:=by cases b<;>first | exact y rfl | exact z rfl
theorem rP {a b c e e':Int} {s:List UInt8} {v:ay} (hv:v=⟨a,b,c,s⟩) (he:e'=e):V.tuple [.agg [.int .i64 a,.int .i64 b,.int .u64 c,.str s],.int .i64 e]=.tuple [ay.enc v,.int .i64 e']:=by subst hv;subst he;rfl
theorem KR (b:Int):dH (l3 b):=by
 unfold l3
 split
 ·rename_i h
  obtain⟨_,_,_,_,h1,h2⟩:=Classical.choose_spec h
  exact⟨h1,by omega⟩
 ·exact⟨by decide,by decide⟩
theorem KS (x:Int):0≤IntKind.u64.wrap x∧IntKind.u64.wrap x<18446744073709551616:=by rw[wrap_u64];omega
theorem AU {s:List UInt8} {n:Nat} (h:0≤l0 s n):IntKind.u64.wrap (BitVec.ofInt IntKind.u64.bits (IntKind.u64.wrap ((l0 s n)*2^min (8:Int).toNat IntKind.u64.bits))||| BitVec.ofInt IntKind.u64.bits (IntKind.u64.wrap (aH s n))).toNat=l0 s (n+1):=by
 have hb:=qi s n
 obtain⟨x,hx⟩:∃x:Nat,l0 s n=x:=⟨(l0 s n).toNat,(Int.toNat_of_nonneg h).symm⟩
 obtain⟨y,hy⟩:∃y:Nat,aH s n=y:=⟨(aH s n).toNat,(Int.toNat_of_nonneg hb.1).symm⟩
 have h8:=aaN x 8 (by decide)
 rw[show((8:Nat):Int)=(8:Int) from rfl] at h8
 have e:IntKind.u64.wrap (aH s n)=((y:Nat):Int):=by rw[wrap_u64,hy];omega
 rw[hx,h8,e,orU (Nat.mod_lt _ (by decide)) (by omega)]
 rw[show x*2^8%18446744073709551616=2^8*(x%72057594037927936) by omega,Tu (by omega)]
 unfold l0
 rw[hx,hy]
 omega
theorem vA {s:List UInt8}:∀n,0≤l0 s n∧l0 s n<18446744073709551616
 | 0=>⟨Int.le_refl _,(by decide:(0:Int)<18446744073709551616)⟩
 | n+1=>by rw[←AU (vA n).1];exact KS _
section
variable [Env] [aC] {vs:List V} {σ:St} {k:ah}
omit [aC] in
theorem aaU {v:ay} {e:Int}:dG (.tuple [ay.enc v,.int .i64 e]):=.tuple (bX (.agg (bX (.int _ _) (bX (.int _ _) (bX (.int _ _) (bX (.str _) ik))))) (bX (.int _ _) ik))
omit [Env] [aC] in
theorem aaV {n:Int} (h:n=0∨n=1):sy n=true:=by rcases h with rfl | rfl<;>decide
omit [Env] [aC] in
theorem Ef {v:ay} (h:bZ v=0):(0≤v.f0∧v.f0≤5)∧(v.f0=1→v.f1=0∨v.f1=1)∧v.f3.length≤64:=by
 refine⟨?_,?_,H7 h⟩
 ·unfold bZ at h
  split at h
  ·cases h
  ·omega
 ·intro h1
  unfold bZ at h
  split at h
  ·cases h
  ·split at h
   ·cases h
   ·split at h
    ·cases h
    ·omega
omit [Env] [aC] in
theorem M0 {a b:Int}:il a b=true↔((1≤a∧a≤5)∧(1≤b∧b≤5)∧¬(a=1∧b=4)∧¬(a=4∧b=1)∧¬(a=3∧b=5)∧¬(a=5∧b=3)):=decide_eq_true_iff
end
end Go.Proofs.YtbajncpfmemdgaaGreatDoor
end
section
namespace Go.Proofs.YtbajncpfmemdgaaGreatDoor
open Go Go.Ev Go.IntWalk Go.Ev.Flt
theorem F255:bU Tryz.prog 255 Tryz.f255:=.of (by kernel_rfl) (by kernel_rfl)
theorem F254:bU Tryz.prog 254 Tryz.f254:=.of (by kernel_rfl) (by kernel_rfl)
theorem F256:bU Tryz.prog 256 Tryz.f256:=.of (by kernel_rfl) (by kernel_rfl)
theorem F257:bU Tryz.prog 257 Tryz.f257:=.of (by kernel_rfl) (by kernel_rfl)
theorem F258:bU Tryz.prog 258 Tryz.f258:=.of (by kernel_rfl) (by kernel_rfl)
theorem F228:bU Tryz.prog 228 Tryz.f228:=.of (by kernel_rfl) (by kernel_rfl)
def sA (e:Int) (v:ay) (u:V):Prop:=(e=0∧u=Pq v)∨(e≠0∧u=FN e)
theorem nR {e:Int} {v:ay} {a b c:Int} {s:List UInt8} (he:e=0) (hv:v=⟨a,b,c,s⟩):sA e v (.func (.func 266) [] [.aM [.int .i64 a,.int .i64 b,.int .u64 c,.str s] 0]):=.inl ⟨he,by subst hv;rfl⟩
theorem C2 {e:Int} {v:ay} {x:Int} (h0:x≠0) (he:e=x):sA e v (.func (.func 265) [] [.aM [.int .i64 x] 0]):=.inr ⟨by rw[he];exact h0,by rw[he];rfl⟩
theorem TC {e e':Int} {v v':ay} (he:e=e') (hv:v=v'):(e'=0→sA e v (.func (.func 266) [] [.aM [.int .i64 v'.f0,.int .i64 v'.f1,.int .u64 v'.f2,.str v'.f3] 0]))∧(e'≠0→sA e v (.func (.func 265) [] [.aM [.int .i64 e'] 0])):=by
 subst he;subst hv
 exact⟨fun h=>.inl ⟨h,rfl⟩,fun h=>.inr ⟨h,rfl⟩⟩
theorem KT {e e':Int} {v v':ay} (he:e=e') (hv:v=v') (hb:e≠0→v=l4):(e=0→V.tuple [.agg [.int .i64 v.f0,.int .i64 v.f1,.int .u64 v.f2,.str v.f3],.int .i64 (0:Int)]=.tuple [ay.enc v',.int .i64 e'])∧
  (e≠0→V.tuple [.agg [.int .i64 (0:Int),.int .i64 (0:Int),.int .u64 (0:Int),.str ([])],.int .i64 e]=.tuple [ay.enc v',.int .i64 e']):=by
 subst he;subst hv
 exact⟨fun h=>by rw[h];rfl,fun h=>by rw[hb h];rfl⟩
theorem FR {x d:Int} (h:iq x d≠0):ft x d=l4:=by
 unfold iq at h;unfold ft
 split at h
 ·rename_i h1
  rw[if_pos h1]
  split at h
  ·exact(h rfl).elim
  ·rename_i h2;rw[if_neg h2]
 ·rename_i h1
  rw[if_neg h1]
  split at h
  ·rename_i h2
   rw[if_pos h2]
   split at h
   ·exact(h rfl).elim
   ·rename_i h3;rw[if_neg h3]
  ·exact(h rfl).elim
theorem M1 {x d:Int} (h:pQ x d≠0):l5 x d=l4:=by
 unfold pQ at h;unfold l5
 split at h
 ·exact(h rfl).elim
 ·rename_i h1
  rw[if_neg h1]
  split at h
  ·rename_i h2;rw[if_pos h2];exact FR h
  ·rename_i h2;rw[if_neg h2]
theorem KU {s:List UInt8} {d:Int} (h:l6 s d≠0):je s d=l4:=by
 unfold l6 at h;unfold je
 split at h
 ·rename_i h1
  rw[if_pos h1]
  split at h
  ·exact(h rfl).elim
  ·rename_i h2;rw[if_neg h2]
 ·rename_i h1
  rw[if_neg h1]
  split at h
  ·exact(h rfl).elim
  ·rename_i h2;rw[if_neg h2]
theorem M3 {s:List UInt8} {d:Int} (h:jV s d≠0):jo s d=l4:=by
 unfold jV at h;unfold jo
 split at h
 ·exact(h rfl).elim
 ·rename_i h1
  rw[if_neg h1]
  split at h
  ·rename_i h2
   rw[if_pos h2]
   split at h
   ·exact(h rfl).elim
   ·rename_i h3;rw[if_neg (fun c=>h3 (.inl c)),if_neg (fun c=>h3 (.inr c))]
  ·rename_i h2;rw[if_neg h2,if_neg h]
def TD (s:List UInt8) (d:Int):Nat→List SV→Prop
 | 0,ss=>∃i:Nat,i≤8∧ss=[.val (.int .i64 d),.val (.int .u64 (l0 s i)),.row (len s) (dx s) 1,.val (.int .i64 ((8:Nat):Int)),.val (.int .i64 ((i:Nat):Int))]
 | _,_=>False
def aaW (s:List UInt8) (d:Int):Nat→List SV→Prop
 | 0,ss=>∃i:Nat,i≤2∧(0<i→s≠q9)∧(1<i→s≠vw)∧ss=[.val (.str s),.val (.int .i64 d),.val (.agg [.str [102,97,108,115,101],.str [116,114,117,101]]),.val (.int .i64 ((i:Nat):Int))]
 | _,_=>False
section
variable [Env] [aC] {vs:List V} {σ:St} {k:ah}
omit [aC] in
theorem ag.aaX {f:FuncId} {A:V→Prop} (hc:∀v∈vs,Go.Ev.Clean v) (hA:∀v,A v→Go.Ev.Clean v) (h:ag Tryz.prog f vs (fun v _=>A v) Go.Ev.start) (hk:∀v,A v→k v σ):ag Tryz.prog f vs k σ:=
 (ag.Bn (Q:=A) hc (h.mono fun v _ hv=>⟨v,.clean (hA v hv),hv⟩)).mono fun v τ ⟨h1,h2⟩=>by subst h2;exact hk v h1
omit [aC] in
theorem Is {e:Int} {v:ay}:∀u,sA e v u→Go.Ev.Clean u:=fun u hu=>by
 rcases hu with ⟨_,rfl⟩ | ⟨_,rfl⟩
 ·exact Go.Ev.Clean.fn cz (ax (Go.Ev.Clean.aM (ay.clean v)) cz)
 ·exact Go.Ev.Clean.fn cz (ax (Go.Ev.Clean.aM (ax (Go.Ev.Clean.int _ _) cz)) cz)
omit [aC] in
theorem rb {f:FuncId} {e:Int} {v:ay} (hc:∀v∈vs,Go.Ev.Clean v) (h:ag Tryz.prog f vs (fun u _=>sA e v u) Go.Ev.start) (hk:vz e v σ k):ag Tryz.prog f vs k σ:=
 ag.aaX hc Is h fun u hu=>by
  rcases hu with ⟨h,rfl⟩ | ⟨h,rfl⟩
  ·exact hk.1 h
  ·exact hk.2 h
theorem Qu (h:MU vs σ k):ag Tryz.prog 255 vs k σ:=by
 unfold MU at h
 split at h
 ·rename_i x d
  obtain⟨⟨hx,hd⟩,h⟩:=h
  refine rb (ax (Go.Ev.Clean.int _ _) (ax (Go.Ev.Clean.int _ _) cz)) (F255.flat (live:=FO) (call:=Im) (n₀:=0) (σ:=Go.Ev.start) (fun h=>FM h) rfl (by kernel_rfl) ?_) h
  rw[aaO]
  unfold iq ft
  refine⟨rfl,av (fun h1=>⟨rfl,av (fun h2=>⟨rfl,av (fun h3=>C2 (by decide) ?_) fun h3=>nR ?_ ?_⟩) fun h2=>nR ?_ ?_⟩) fun h1=>⟨rfl,av (fun h2=>⟨hx,Ir (fun h3=>C2 (by decide) ?_) fun h3=>nR ?_ ?_⟩) fun h2=>⟨rfl,av (fun h3=>nR ?_ ?_) fun h3=>⟨rfl,av (fun h4=>⟨hx,nR ?_ ?_⟩) fun h4=>nR ?_ ?_⟩⟩⟩⟩
  ·rw[if_pos h1,if_neg (by omega)]
  ·rw[if_pos h1,if_pos (by omega)]
  ·rw[if_pos h1,if_pos (by omega)]
  ·rw[if_pos h1,if_pos (by omega)]
  ·rw[if_pos h1,if_pos (by omega)]
  ·rw[if_neg h1,if_pos h2,if_neg (by rw[h3];decide)]
  ·rw[if_neg h1,if_pos h2,if_pos h3]
  ·rw[if_neg h1,if_pos h2,if_pos h3]
  ·rw[if_neg h1,if_neg h2]
  ·rw[if_neg h1,if_neg h2,if_pos h3]
  ·rw[if_neg h1,if_neg h2]
  ·rw[if_neg h1,if_neg h2,if_neg h3,if_pos h4]
  ·rw[if_neg h1,if_neg h2]
  ·rw[if_neg h1,if_neg h2,if_neg h3,if_neg h4]
 ·exact h.elim
theorem FT:∀ {f:FuncId} {vs:List V} {σ:St} {k:ah},C0 f vs σ k→ag Tryz.prog f vs k σ:=fun h=>aP Qu FM h
theorem Qv (h:MV vs σ k):ag Tryz.prog 254 vs k σ:=by
 unfold MV at h
 split at h
 ·rename_i x d
  obtain⟨⟨hx,hd⟩,h⟩:=h
  refine rb (ax (Go.Ev.Clean.int _ _) (ax (Go.Ev.Clean.int _ _) cz)) (F254.flat (live:=zK) (call:=C0) (n₀:=0) (σ:=Go.Ev.start) (fun h=>FT h) rfl (by kernel_rfl) ?_) h
  have e0:∀x:Int,(x=0∨x=1)→d≠5→(0:Int)=iq x d:=fun x hx h1=>by
   unfold iq
   rw[if_neg (by omega)]
   split
   ·rw[if_pos (aaV hx)]
   ·rfl
  have e1:∀x:Int,d≠5→kA x d=ft x d:=fun x h1=>by unfold kA;rw[if_neg h1]
  rcases hx with rfl | rfl
  ·rw[Tw]
   refine⟨rfl,av (fun h1=>nR rfl ?_) fun h1=>⟨⟨⟨by decide,by decide⟩,by omega⟩,TC (e0 0 (.inl rfl) h1) (e1 0 h1)⟩⟩
   unfold kA;rw[if_pos h1];rfl
  ·rw[Tx]
   refine⟨rfl,av (fun h1=>nR rfl ?_) fun h1=>⟨⟨⟨by decide,by decide⟩,by omega⟩,TC (e0 1 (.inr rfl) h1) (e1 1 h1)⟩⟩
   unfold kA;rw[if_pos h1];rfl
 ·exact h.elim
theorem FU:∀ {f:FuncId} {vs:List V} {σ:St} {k:ah},Io f vs σ k→ag Tryz.prog f vs k σ:=fun h=>aP Qv FT h
theorem Qw (h:MW vs σ k):ag Tryz.prog 256 vs k σ:=by
 unfold MW at h
 split at h
 ·rename_i x d
  obtain⟨⟨hx,hd⟩,h⟩:=h
  refine rb (ax (Go.Ev.Clean.int _ _) (ax (Go.Ev.Clean.int _ _) cz)) (F256.flat (live:=FP) (call:=Io) (n₀:=0) (σ:=Go.Ev.start) (fun h=>FU h) rfl (by kernel_rfl) ?_) h
  rw[aaP]
  unfold pQ l5
  refine⟨rfl,av (fun h1=>nR ?_ ?_) fun h1=>⟨hx,Ir (fun h3=>C2 (by decide) ?_) fun h3=>⟨⟨KR x,by omega⟩,TC ?_ ?_⟩⟩⟩
  ·rw[if_pos h1]
  ·rw[if_pos h1]
  ·rw[if_neg h1,if_neg (by rw[h3];decide)]
  ·rw[if_neg h1,if_pos h3]
  ·rw[if_neg h1,if_pos h3]
 ·exact h.elim
theorem FV:∀ {f:FuncId} {vs:List V} {σ:St} {k:ah},C1 f vs σ k→ag Tryz.prog f vs k σ:=fun h=>aP Qw FU h
theorem Qx (h:MX vs σ k):ag Tryz.prog 257 vs k σ:=by
 unfold MX at h
 split at h
 ·rename_i s d
  obtain⟨⟨hx,hd⟩,h⟩:=h
  refine rb (ax (Go.Ev.Clean.str _) (ax (Go.Ev.Clean.int _ _) cz)) (F257.cx (live:=zL) (call:=C1) (n₀:=0) (σ:=Go.Ev.start) (fun h=>FV h) rfl 1 (by kernel_rfl) Nat.lt_wfRel.wf (fun _ ss=>8-cu ss) (fun j ss=>(d≠5∧s.length=8)∧TD s d j ss) ?_ ?_ ?_) h
  ·intro k ss hI
   cases k with
   | zero=>obtain⟨_,i,_,rfl⟩:=hI;exact aE (aE (KM (aE (aE bM))))
   | succ k=>exact hI.2.elim
  ·rw[aaQ];unfold Ty;rw[hL]
   unfold je l6
   have fin:d≠5→s.length=8→(d≠5∧s.length=8)∧TD s d 0 [.val (.int .i64 d),.val (.int .u64 (0:Int)),.row s.length (dx s) 1,.val (.int .i64 ((s.length:Nat):Int)),.val (.int .i64 (0:Int))]:=fun h1 h2=>⟨⟨h1,h2⟩,0,by decide,by rw[hL,h2];rfl⟩
   have no:d≠5→s.length≠8→sA (if d=5 then(if eU s.length s=true then 0 else 7) else if s.length=8 then 0 else 6) (if d=5 then(if eU s.length s=true then⟨d,0,0,s⟩ else l4) else if s.length=8 then(if d=3 then⟨d,0,dR (l0 s 8),[]⟩ else⟨d,IntKind.i64.wrap (l0 s 8),0,[]⟩) else l4) (.func (.func 265) [] [.aM [.int .i64 (6:Int)] 0]):=fun h1 h2=>C2 (by decide) (by rw[if_neg h1,if_neg h2])
   repeat' first
    | exact fin (by omega) (by omega)
    | exact no (by omega) (by omega)
    | exact hx
    | omega
    | refine⟨rfl,av (fun _=>?_) (fun _=>?_)⟩
    | refine Ir (fun _=>?_) (fun _=>?_)
    | exact C2 (by decide) (by rw[if_pos (by omega),if_neg (by simp only[*];decide)])
    | exact nR (by rw[if_pos (by omega),if_pos (by assumption)]) (by rw[if_pos (by omega),if_pos (by assumption)])
    | exact⟨rfl,rfl⟩
    | refine⟨?_,?_⟩
  ·intro k hk ss hI
   obtain rfl:k=0:=by omega
   obtain⟨⟨KV,h8⟩,i,hi,rfl⟩:=hI
   rw[aaR,hL]
   refine⟨rfl,av (fun h1=>⟨⟨by omega,by omega⟩,by omega,by decide,⟨rfl,rfl⟩,⟨⟨KV,h8⟩,i+1,by omega,?_⟩,?_⟩) fun h1=>?_⟩
   ·rw[dU,AU (vA i).1,i64_in ((i:Int)+1) (by omega),hL];rfl
   ·show 8-(IntKind.i64.wrap (((i:Nat):Int)+1)).toNat<8-(((i:Nat):Int)).toNat
    rw[i64_in ((i:Int)+1) (by omega)];omega
   ·obtain rfl:i=8:=by omega
    unfold je l6
    refine⟨rfl,av (fun h3=>⟨vA 8,nR ?_ ?_⟩) fun h3=>nR ?_ ?_⟩
    ·rw[if_neg KV,if_pos h8]
    ·rw[if_neg KV,if_pos h8,if_pos h3]
    ·rw[if_neg KV,if_pos h8]
    ·rw[if_neg KV,if_pos h8,if_neg h3]
 ·exact h.elim
theorem FW:∀ {f:FuncId} {vs:List V} {σ:St} {k:ah},xf f vs σ k→ag Tryz.prog f vs k σ:=fun h=>aP Qx FV h
theorem Qy (h:MY vs σ k):ag Tryz.prog 258 vs k σ:=by
 unfold MY at h
 split at h
 ·rename_i s d
  obtain⟨⟨hx,hd⟩,h⟩:=h
  refine rb (ax (Go.Ev.Clean.str _) (ax (Go.Ev.Clean.int _ _) cz)) (F258.cx (live:=ra) (call:=xf) (n₀:=0) (σ:=Go.Ev.start) (fun h=>FW h) rfl 1 (by kernel_rfl) Nat.lt_wfRel.wf (fun _ ss=>8-cu ss) (fun j ss=>d=1∧aaW s d j ss) ?_ ?_ ?_) h
  ·intro k ss hI
   cases k with
   | zero=>obtain⟨_,i,_,_,_,rfl⟩:=hI;exact nw (aE (aw (Go.Ev.Clean.agg (ax (Go.Ev.Clean.str _) (ax (Go.Ev.Clean.str _) cz))) (aE bM)))
   | succ k=>exact hI.2.elim
  ·rw[aaS]
   refine⟨rfl,av (fun h1=>nR ?_ ?_) fun h1=>⟨rfl,av (fun h2=>⟨h2,0,by decide,fun h=>absurd h (by decide),fun h=>absurd h (by decide),rfl⟩) fun h2=>⟨rfl,av (fun h3=>C2 h3 ?_) fun h3=>nR ?_ ?_⟩⟩⟩
   ·unfold jV;rw[if_pos h1]
   ·unfold jo;rw[if_pos h1]
   ·unfold jV;rw[if_neg h1,if_neg h2]
   ·unfold jV;rw[if_neg h1,if_neg h2];exact Classical.not_not.mp h3
   ·unfold jo;rw[if_neg h1,if_neg h2,if_pos (Classical.not_not.mp h3)]
  ·intro k hk ss hI
   obtain rfl:k=0:=by omega
   obtain⟨h1,i,hi,hf,ht,rfl⟩:=hI
   have h4:¬d=4:=by omega
   match i,hi,hf,ht with
   | 0,_,hf,ht=>
    refine(Tz _ _ s d).mpr ⟨rfl,av (fun h2=>nR ?_ ?_) fun h2=>⟨⟨h1,1,by decide,fun _ c=>h2 c.symm,fun c=>absurd c (by decide),rfl⟩,(by show(8-1:Nat)<8-0;decide)⟩⟩
    ·unfold jV;rw[if_neg h4,if_pos h1,if_pos (.inr h2.symm)]
    ·unfold jo;rw[if_neg h4,if_pos h1,if_neg (by rw[←h2];decide),if_pos (show s=q9 from h2.symm)]
   | 1,_,hf,ht=>
    refine(TA _ _ s d).mpr ⟨rfl,av (fun h2=>nR ?_ ?_) fun h2=>⟨⟨h1,2,by decide,fun _=>hf (by decide),fun _ c=>h2 c.symm,rfl⟩,(by show(8-2:Nat)<8-1;decide)⟩⟩
    ·unfold jV;rw[if_neg h4,if_pos h1,if_pos (.inl h2.symm)]
    ·unfold jo;rw[if_neg h4,if_pos h1,if_pos (show s=vw from h2.symm)]
   | 2,_,hf,ht=>
    refine(TB _ _ s d).mpr ⟨rfl,C2 (by decide) ?_⟩
    unfold jV;rw[if_neg h4,if_pos h1,if_neg (fun c:s=vw∨s=q9=>c.elim (ht (by decide)) (hf (by decide)))]
   | n+3,hi,_,_=>omega
 ·exact h.elim
theorem FX:∀ {f:FuncId} {vs:List V} {σ:St} {k:ah},Ip f vs σ k→ag Tryz.prog f vs k σ:=fun h=>aP Qy FW h
theorem Qz (h:MZ vs σ k):ag Tryz.prog 228 vs k σ:=by
 unfold MZ at h
 split at h
 ·rename_i a b c s d
  obtain⟨hv,h⟩:=h
  generalize hV:(⟨a,b,c,s⟩:ay)=v at *
  rw[show(V.agg [.int .i64 a,.int .i64 b,.int .u64 c,.str s])=ay.enc v by rw[←hV];rfl]
  refine ag.eG (aA (ay.aG v) (aA (Go.Ev.Clean.int _ _) bm)) aaU (F228.flat (live:=FQ) (call:=Ip) (n₀:=0) (σ:=Go.Ev.start) (fun h=>FX h) rfl (by kernel_rfl) ?_) h
  rw[aaT]
  unfold uc YA
  refine⟨hv.1,rfl,av (fun h1=>rP ?_ ?_) fun h1=>?_⟩
  ·rw[if_pos (show bZ v≠0 from h1)];rfl
  ·rw[if_pos (show bZ v≠0 from h1)]
  ·replace h1:¬bZ v≠0:=h1
   rw[if_neg h1,if_neg h1]
   obtain⟨k1,k2,k3⟩:=Ef (Classical.not_not.mp h1)
   refine⟨rfl,av (fun h2=>rP ?_ ?_) fun h2=>⟨rfl,av (fun h3=>rP ?_ ?_) fun h3=>?_⟩⟩
   ·rw[if_pos (.inl h2)];rfl
   ·rw[if_pos (.inl h2)]
   ·rw[if_pos (.inr h3)];rfl
   ·rw[if_pos (.inr h3)]
   ·have hd:¬(d<1∨d>5):=by omega
    rw[if_neg hd,if_neg hd]
    refine⟨rfl,av (fun h4=>rP ?_ ?_) fun h4=>⟨rfl,av (fun h5=>rP ?_ ?_) fun h5=>?_⟩⟩
    ·rw[if_pos (.inl h4)]
    ·rw[if_pos (.inl h4)]
    ·rw[if_pos (.inr h5)]
    ·rw[if_pos (.inr h5)]
    ·have YB:¬(v.f0=0∨v.f0=d):=by omega
     rw[if_neg YB,if_neg YB]
     refine Ir (fun h6=>rP ?_ ?_) fun h6=>?_
     ·rw[if_pos h6];rfl
     ·rw[if_pos h6]
     ·have hc:=M0.mp h6
      have YC:¬il v.f0 d=false:=by rw[h6];decide
      rw[if_neg YC,if_neg YC]
      refine⟨rfl,av (fun h7=>⟨⟨k2 h7,by omega⟩,?_⟩) fun h7=>⟨rfl,av (fun h8=>⟨⟨hv.2,by omega⟩,?_⟩) fun h8=>⟨rfl,av (fun h9=>⟨⟨hv.1,by omega⟩,?_⟩) fun h9=>⟨rfl,av (fun kg=>⟨⟨k3,by omega⟩,?_⟩) fun kg=>⟨⟨k3,by omega⟩,?_⟩⟩⟩⟩⟩
      ·rw[if_pos h7,if_pos h7];exact KT rfl rfl fun h=>(h rfl).elim
      ·rw[if_neg h7,if_neg h7,if_pos h8,if_pos h8];exact KT rfl rfl FR
      ·rw[if_neg h7,if_neg h7,if_neg h8,if_neg h8,if_pos h9,if_pos h9];exact KT rfl rfl M1
      ·rw[if_neg h7,if_neg h7,if_neg h8,if_neg h8,if_neg h9,if_neg h9,if_pos kg,if_pos kg];exact KT rfl rfl KU
      ·rw[if_neg h7,if_neg h7,if_neg h8,if_neg h8,if_neg h9,if_neg h9,if_neg kg,if_neg kg];exact KT rfl rfl M3
 ·exact h.elim
theorem FY:∀ {f:FuncId} {vs:List V} {σ:St} {k:ah},Iq f vs σ k→ag Tryz.prog f vs k σ:=fun h=>aP Qz FX h
end
end Go.Proofs.YtbajncpfmemdgaaGreatDoor
end
section
namespace Go.Proofs.YtbajncpfmemdgaaGreatDoor
open Go Go.Ev
noncomputable def vB (q:Nat→List UInt8):Nat→Bool
 | 0=>true
 | n+1=>vB q n&&(decide (n=0)|| !(Op.bytesLess (q n) (q (n-1))||q n==q (n-1)))
noncomputable def cn (l:List aa):Int:=
 if l.length>16 then 2 else if c9 (fun i=>bu (l.getD i default)) l.length≠0 then c9 (fun i=>bu (l.getD i default)) l.length
 else if vB (fun i=>(l.getD i default).f0) l.length=true then 0 else 12
noncomputable def aW (l:List aa) (s:List UInt8):Int:=cd s (fun i=>(l.getD i default).f0) l.length
def KW:Nat→List Nat:=(fun _=>[])
theorem e83 [Env] (A:Nat→List SV→Prop) (Q:V→Prop) (e:aa) (s:List UInt8):WE Tryz.prog 83 Tryz.f83 Iq 0 KW A (fun v _=>Q v) [aa.enc e,.aM [.str s] 0] Go.Ev.start=
  (af (decide (e.f0=s)) (Q (.bool true)) (Q (.bool false))):=by kernel_rfl
def YD [Env] (vs:List V) (σ:St) (k:ah):Prop:=
 ∃(e:aa) (s:List UInt8),vs=[aa.enc e,.aM [.str s] 0]∧k (.bool (decide (e.f0=s))) σ
def C3 [Env]:=kS 83 YD Iq
def C4:Nat→List Nat:=(fun i=>match i with | 0=>[0,1,7,8] | _=>[])
theorem Ps [Env] (A:Nat→List SV→Prop) (Q:V→Prop) (l:List aa) (s:List UInt8):WE Tryz.prog 82 Tryz.f82 C3 0 C4 A (fun v _=>Q v) [ae aa.enc 3 l,.func (.func 83) [] [.aM [.str s] 0]] Go.Ev.start=
  (A 0 [.val (ae aa.enc 3 l),.val (.func (.func 83) [] [.aM [.str s] 0]),.val (.int .i64 (((l.length:Nat):Int))),.val (.int .i64 (0:Int))]):=by kernel_rfl
theorem r82 [Env] (A:Nat→List SV→Prop) (Q:V→Prop) (l:List aa) (s:List UInt8) (m i:Int):WL Tryz.prog 82 Tryz.f82 C3 0 C4 A (fun v _=>Q v) 0 [.val (ae aa.enc 3 l),.val (.func (.func 83) [] [.aM [.str s] 0]),.val (.int .i64 m),.val (.int .i64 i)]=
  (((.i64:IntKind)=.i64∧af (decide (i<m)) (((0≤i∧i<((l.length:Nat):Int))∧(∃(YE:aa) (YF:List UInt8),[aa.enc (l.getD i.toNat default),.aM [.str s] 0]=[aa.enc YE,.aM [.str YF] 0]∧af ((decide (YE.f0=YF))) (Q (.int .i64 i)) (A 0 [.val (ae aa.enc 3 l),.val (.func (.func 83) [] [.aM [.str s] 0]),.val (.int .i64 m),.val (.int .i64 (IntKind.i64.wrap (i+(1:Int))))])))) (Q (.int .i64 (-1:Int))))):=by kernel_rfl
def YG [Env] (vs:List V) (σ:St) (k:ah):Prop:=
 ∃(l:List aa) (s:List UInt8),bn σ vs [ae aa.enc 3 l,.func (.func 83) [] [.aM [.str s] 0]]∧l.length≤1000000∧k (.int .i64 (aW l s)) σ
def It [Env]:=kS 82 YG C3
def KX:Nat→List Nat:=(fun _=>[])
theorem e40 [Env] (A:Nat→List SV→Prop) (Q:V→Prop) (l:List aa) (s:List UInt8):WE Tryz.prog 40 Tryz.f40 It 0 KX A (fun v _=>Q v) [ae aa.enc 3 l,.str s] Go.Ev.start=
  ((∃(TE:List aa) (YH:List UInt8),bn ⟨(St.new Go.Ev.start 0 (.cells 1 [] (an [.str s] .leaf 0) true false)).heap,1⟩ [ae aa.enc 3 l,.func (.func 83) [] [.ptr 0 0]] [ae aa.enc 3 TE,.func (.func 83) [] [.aM [.str YH] 0]]∧TE.length≤1000000∧Q (.int .i64 (aW TE YH)))):=by kernel_rfl
def YI [Env] (vs:List V) (σ:St) (k:ah):Prop:=
 ∃(l:List aa) (s:List UInt8),vs=[ae aa.enc 3 l,.str s]∧l.length≤1000000∧k (.int .i64 (aW l s)) σ
def zM [Env]:=kS 40 YI It
def yH:Nat→List Nat:=(fun i=>match i with | 0=>[0,10,11,12] | 1=>[0,23,24] | _=>[])
theorem e38 [Env] (A:Nat→List SV→Prop) (Q:V→Prop) (l:List aa):WE Tryz.prog 38 Tryz.f38 zM 0 yH A (fun v _=>Q v) [ae aa.enc 3 l] Go.Ev.start=
  (((.i64:IntKind)=.i64∧af (decide ((((l.length:Nat):Int))>(16:Int))) (Q (.int .i64 (2:Int))) (A 0 [.val (ae aa.enc 3 l),.val (ae aa.enc 3 l),.val (.int .i64 (((l.length:Nat):Int))),.val (.int .i64 (0:Int))]))):=by kernel_rfl
theorem aaY [Env] (A:Nat→List SV→Prop) (Q:V→Prop) (l:List aa) (m i:Int):WL Tryz.prog 38 Tryz.f38 zM 0 yH A (fun v _=>Q v) 0 [.val (ae aa.enc 3 l),.val (ae aa.enc 3 l),.val (.int .i64 m),.val (.int .i64 i)]=
  (((.i64:IntKind)=.i64∧af (decide (i<m)) (((0≤i∧i<((l.length:Nat):Int))∧(∃Pt:aa,[.agg [.str ((l.getD i.toNat default).f0),.int .i64 ((l.getD i.toNat default).f1),ae aj.enc 7 ((l.getD i.toNat default).f2)]]=[aa.enc Pt]∧gH Pt∧((.i64:IntKind)=.i64∧af (decide ((bu Pt)≠(0:Int))) (Q (.int .i64 (bu Pt))) (A 0 [.val (ae aa.enc 3 l),.val (ae aa.enc 3 l),.val (.int .i64 m),.val (.int .i64 (IntKind.i64.wrap (i+(1:Int))))]))))) (A 1 [.val (ae aa.enc 3 l),.val (.int .i64 (((l.length:Nat):Int))),.val (.int .i64 (0:Int))]))):=by kernel_rfl
theorem aaZ [Env] (A:Nat→List SV→Prop) (Q:V→Prop) (l:List aa) (m i:Int):WL Tryz.prog 38 Tryz.f38 zM 0 yH A (fun v _=>Q v) 1 [.val (ae aa.enc 3 l),.val (.int .i64 m),.val (.int .i64 i)]=
  (((.i64:IntKind)=.i64∧af (decide (i<m)) (((.i64:IntKind)=.i64∧af (decide (i>(0:Int))) (((0≤i∧i<((l.length:Nat):Int))∧((0≤(IntKind.i64.wrap (i-(1:Int)))∧(IntKind.i64.wrap (i-(1:Int)))<((l.length:Nat):Int))∧af ((Op.bytesLess ((l.getD i.toNat default).f0) ((l.getD (IntKind.i64.wrap (i-(1:Int))).toNat default).f0)||((l.getD i.toNat default).f0)==((l.getD (IntKind.i64.wrap (i-(1:Int))).toNat default).f0))) (Q (.int .i64 (12:Int))) (A 1 [.val (ae aa.enc 3 l),.val (.int .i64 m),.val (.int .i64 (IntKind.i64.wrap (i+(1:Int))))])))) (A 1 [.val (ae aa.enc 3 l),.val (.int .i64 m),.val (.int .i64 (IntKind.i64.wrap (i+(1:Int))))]))) (Q (.int .i64 (0:Int))))):=by kernel_rfl
def YJ [Env] (vs:List V) (σ:St) (k:ah):Prop:=
 ∃l:List aa,vs=[ae aa.enc 3 l]∧(∀t∈l,gH t)∧k (.int .i64 (cn l)) σ
def Iu [Env]:=kS 38 YJ zM
end Go.Proofs.YtbajncpfmemdgaaGreatDoor
end
section
namespace Go.Proofs.YtbajncpfmemdgaaGreatDoor
open Go Go.Ev
def FZ:Nat→List Nat:=(fun _=>[])
theorem aa0 [Env] (A:Nat→List SV→Prop) (Q:V→Prop) (x y:ay):WE Tryz.prog 212 Tryz.f212 Iu 0 FZ A (fun v _=>Q v) [ay.enc x,ay.enc y] Go.Ev.start=
  (((.i64:IntKind)=.i64∧af (decide (x.f0=y.f0)) (((.i64:IntKind)=.i64∧af (decide (x.f1=y.f1)) (((.u64:IntKind)=.u64∧af (decide (x.f2=y.f2)) (af (decide (x.f3=y.f3)) (Q (.bool true)) (Q (.bool false))) (Q (.bool false)))) (Q (.bool false)))) (Q (.bool false)))):=by kernel_rfl
def TF [Env] (vs:List V) (σ:St) (k:ah):Prop:=
 ∃x y:ay,vs=[ay.enc x,ay.enc y]∧∀b:Bool,(b=true↔x=y)→k (.bool b) σ
def xg [Env]:=kS 212 TF Iu
def re:Nat→List Nat:=(fun _=>[])
abbrev YK [Env] (A:Nat→List SV→Prop) (Q:V→Prop) (a b:List UInt8) (c d:Int) (u v:ay):Prop:=
 (af ((false==false)==true) (af ((false==false)==true) (af ((false==false)==true) ((∃b0 b1:ay,[.tuple [],.agg [.int .i64 v.f0,.int .i64 v.f1,.int .u64 v.f2,.str v.f3]]=[ay.enc b0,ay.enc b1]∧∀b2:Bool,(b2=true↔b0=b1)→af (false==false) (Q (.bool b2)) (Q (.bool false)))) (af (false==false) (Q (.tuple [])) (Q (.bool false)))) (af ((false==false)==true) ((∃b3 b4:ay,[.tuple [],.tuple []]=[ay.enc b3,ay.enc b4]∧∀b5:Bool,(b5=true↔b3=b4)→af (false==false) (Q (.bool b5)) (Q (.bool false)))) (af (false==false) (Q (.tuple [])) (Q (.bool false))))) (af ((false==false)==true) False (af ((false==false)==true) ((∃b6 b7:ay,[.tuple [],.tuple []]=[ay.enc b6,ay.enc b7]∧∀b8:Bool,(b8=true↔b6=b7)→af (false==false) (Q (.bool b8)) (Q (.bool false)))) (af (false==false) (Q (.tuple [])) (Q (.bool false))))))
abbrev YL [Env] (A:Nat→List SV→Prop) (Q:V→Prop) (a b:List UInt8) (c d:Int) (u v:ay):Prop:=
 (af ((true==false)==true) (af ((true==false)==true) (af ((true==false)==true) ((∃b0 b1:ay,[.tuple [],.agg [.int .i64 v.f0,.int .i64 v.f1,.int .u64 v.f2,.str v.f3]]=[ay.enc b0,ay.enc b1]∧∀b2:Bool,(b2=true↔b0=b1)→af (true==false) (Q (.bool b2)) (Q (.bool false)))) (af (true==false) (Q (.tuple [])) (Q (.bool false)))) (af ((true==false)==true) ((∃b3 b4:ay,[.tuple [],.tuple []]=[ay.enc b3,ay.enc b4]∧∀b5:Bool,(b5=true↔b3=b4)→af (true==false) (Q (.bool b5)) (Q (.bool false)))) (af (true==false) (Q (.tuple [])) (Q (.bool false))))) (af ((true==false)==true) False (af ((true==false)==true) ((∃b6 b7:ay,[.tuple [],.tuple []]=[ay.enc b6,ay.enc b7]∧∀b8:Bool,(b8=true↔b6=b7)→af (true==false) (Q (.bool b8)) (Q (.bool false)))) (af (true==false) (Q (.tuple [])) (Q (.bool false))))))
abbrev YM [Env] (A:Nat→List SV→Prop) (Q:V→Prop) (a b:List UInt8) (c d:Int) (u v:ay):Prop:=
 (af ((false==true)==true) (af ((false==true)==true) (af ((false==true)==true) ((∃b0 b1:ay,[.tuple [],.agg [.int .i64 v.f0,.int .i64 v.f1,.int .u64 v.f2,.str v.f3]]=[ay.enc b0,ay.enc b1]∧∀b2:Bool,(b2=true↔b0=b1)→af (false==true) (Q (.bool b2)) (Q (.bool false)))) (af (false==true) (Q (.tuple [])) (Q (.bool false)))) (af ((false==true)==true) ((∃b3 b4:ay,[.tuple [],.tuple []]=[ay.enc b3,ay.enc b4]∧∀b5:Bool,(b5=true↔b3=b4)→af (false==true) (Q (.bool b5)) (Q (.bool false)))) (af (false==true) (Q (.tuple [])) (Q (.bool false))))) (af ((false==true)==true) False (af ((false==true)==true) ((∃b6 b7:ay,[.tuple [],.tuple []]=[ay.enc b6,ay.enc b7]∧∀b8:Bool,(b8=true↔b6=b7)→af (false==true) (Q (.bool b8)) (Q (.bool false)))) (af (false==true) (Q (.tuple [])) (Q (.bool false))))))
abbrev TG [Env] (A:Nat→List SV→Prop) (Q:V→Prop) (a b:List UInt8) (c d:Int) (u v:ay):Prop:=
 (af ((true==true)==true) (af ((true==true)==true) (af ((true==true)==true) ((∃b0 b1:ay,[.tuple [],.agg [.int .i64 v.f0,.int .i64 v.f1,.int .u64 v.f2,.str v.f3]]=[ay.enc b0,ay.enc b1]∧∀b2:Bool,(b2=true↔b0=b1)→af (true==true) (Q (.bool b2)) (Q (.bool false)))) (af (true==true) (Q (.tuple [])) (Q (.bool false)))) (af ((true==true)==true) ((∃b3 b4:ay,[.tuple [],.tuple []]=[ay.enc b3,ay.enc b4]∧∀b5:Bool,(b5=true↔b3=b4)→af (true==true) (Q (.bool b5)) (Q (.bool false)))) (af (true==true) (Q (.tuple [])) (Q (.bool false))))) (af ((true==true)==true) False (af ((true==true)==true) ((∃b6 b7:ay,[.tuple [],.tuple []]=[ay.enc b6,ay.enc b7]∧∀b8:Bool,(b8=true↔b6=b7)→af (true==true) (Q (.bool b8)) (Q (.bool false)))) (af (true==true) (Q (.tuple [])) (Q (.bool false))))))
abbrev TH [Env] (A:Nat→List SV→Prop) (Q:V→Prop) (a b:List UInt8) (c d:Int) (u v:ay):Prop:=
 (af ((false==false)==true) ((∃b0 b1:ay,[.agg [.int .i64 u.f0,.int .i64 u.f1,.int .u64 u.f2,.str u.f3],.tuple []]=[ay.enc b0,ay.enc b1]∧∀b2:Bool,(b2=true↔b0=b1)→af (false==false) (Q (.bool b2)) (Q (.bool false)))) (af (false==false) (Q (.tuple [])) (Q (.bool false))))
theorem QA [Env] (A:Nat→List SV→Prop) (Q:V→Prop) (a b:List UInt8) (c d:Int) (u v:ay):WE Tryz.prog 164 Tryz.f164 xg 0 re A (fun v _=>Q v) [.agg [.str a,.int .i64 c,.bool true,.int .i64 u.f0,.int .i64 u.f1,.int .u64 u.f2,.str u.f3],.agg [.str b,.int .i64 d,.bool true,.int .i64 v.f0,.int .i64 v.f1,.int .u64 v.f2,.str v.f3]] Go.Ev.start=
  (af (decide (a=b)) (((.i64:IntKind)=.i64∧af (decide (c=d)) (af ((true==true)==true) (af ((true==true)==true) (af ((true==true)==true) (af ((true==true)==true) (af ((true==true)==true) ((∃YN YO:ay,[.agg [.int .i64 u.f0,.int .i64 u.f1,.int .u64 u.f2,.str u.f3],.agg [.int .i64 v.f0,.int .i64 v.f1,.int .u64 v.f2,.str v.f3]]=[ay.enc YN,ay.enc YO]∧∀YP:Bool,(YP=true↔YN=YO)→af (true==true) (Q (.bool YP)) (Q (.bool false)))) (af (true==true) (Q (.tuple [])) (Q (.bool false)))) (af ((true==true)==true) ((∃YQ YR:ay,[.agg [.int .i64 u.f0,.int .i64 u.f1,.int .u64 u.f2,.str u.f3],.tuple []]=[ay.enc YQ,ay.enc YR]∧∀Pj:Bool,(Pj=true↔YQ=YR)→af (true==true) (Q (.bool Pj)) (Q (.bool false)))) (af (true==true) (Q (.tuple [])) (Q (.bool false))))) (af ((true==true)==true) False (af ((true==true)==true) ((∃YS YT:ay,[.agg [.int .i64 u.f0,.int .i64 u.f1,.int .u64 u.f2,.str u.f3],.tuple []]=[ay.enc YS,ay.enc YT]∧∀YU:Bool,(YU=true↔YS=YT)→af (true==true) (Q (.bool YU)) (Q (.bool false)))) (af (true==true) (Q (.tuple [])) (Q (.bool false)))))) (TG A Q a b c d u v)) (af ((true==true)==true) False (TG A Q a b c d u v))) (Q (.bool false)))) (Q (.bool false))):=by kernel_rfl
theorem QB [Env] (A:Nat→List SV→Prop) (Q:V→Prop) (a b:List UInt8) (c d:Int) (u v:ay):WE Tryz.prog 164 Tryz.f164 xg 0 re A (fun v _=>Q v) [.agg [.str a,.int .i64 c,.bool true,.int .i64 u.f0,.int .i64 u.f1,.int .u64 u.f2,.str u.f3],.agg [.str b,.int .i64 d,.bool false,.int .i64 v.f0,.int .i64 v.f1,.int .u64 v.f2,.str v.f3]] Go.Ev.start=
  (af (decide (a=b)) (((.i64:IntKind)=.i64∧af (decide (c=d)) (af ((true==false)==true) (af ((true==false)==true) (af ((true==false)==true) (af ((true==false)==true) (af ((true==false)==true) ((∃YV YW:ay,[.agg [.int .i64 u.f0,.int .i64 u.f1,.int .u64 u.f2,.str u.f3],.agg [.int .i64 v.f0,.int .i64 v.f1,.int .u64 v.f2,.str v.f3]]=[ay.enc YV,ay.enc YW]∧∀KI:Bool,(KI=true↔YV=YW)→af (true==false) (Q (.bool KI)) (Q (.bool false)))) (af (true==false) (Q (.tuple [])) (Q (.bool false)))) (af ((true==false)==true) ((∃YX YY:ay,[.agg [.int .i64 u.f0,.int .i64 u.f1,.int .u64 u.f2,.str u.f3],.tuple []]=[ay.enc YX,ay.enc YY]∧∀YZ:Bool,(YZ=true↔YX=YY)→af (true==false) (Q (.bool YZ)) (Q (.bool false)))) (af (true==false) (Q (.tuple [])) (Q (.bool false))))) (af ((true==false)==true) False (af ((true==false)==true) ((∃Y0 Y1:ay,[.agg [.int .i64 u.f0,.int .i64 u.f1,.int .u64 u.f2,.str u.f3],.tuple []]=[ay.enc Y0,ay.enc Y1]∧∀Y2:Bool,(Y2=true↔Y0=Y1)→af (true==false) (Q (.bool Y2)) (Q (.bool false)))) (af (true==false) (Q (.tuple [])) (Q (.bool false)))))) (YL A Q a b c d u v)) (af ((true==false)==true) False (YL A Q a b c d u v))) (Q (.bool false)))) (Q (.bool false))):=by kernel_rfl
theorem QC [Env] (A:Nat→List SV→Prop) (Q:V→Prop) (a b:List UInt8) (c d:Int) (u v:ay):WE Tryz.prog 164 Tryz.f164 xg 0 re A (fun v _=>Q v) [.agg [.str a,.int .i64 c,.bool false,.int .i64 u.f0,.int .i64 u.f1,.int .u64 u.f2,.str u.f3],.agg [.str b,.int .i64 d,.bool true,.int .i64 v.f0,.int .i64 v.f1,.int .u64 v.f2,.str v.f3]] Go.Ev.start=
  (af (decide (a=b)) (((.i64:IntKind)=.i64∧af (decide (c=d)) (af ((false==true)==true) (af ((false==true)==true) (af ((false==true)==true) (af ((false==true)==true) (af ((false==true)==true) ((∃Y3 Y4:ay,[.agg [.int .i64 u.f0,.int .i64 u.f1,.int .u64 u.f2,.str u.f3],.agg [.int .i64 v.f0,.int .i64 v.f1,.int .u64 v.f2,.str v.f3]]=[ay.enc Y3,ay.enc Y4]∧∀Y5:Bool,(Y5=true↔Y3=Y4)→af (false==true) (Q (.bool Y5)) (Q (.bool false)))) (af (false==true) (Q (.tuple [])) (Q (.bool false)))) (af ((false==true)==true) ((∃Y6 Y7:ay,[.agg [.int .i64 u.f0,.int .i64 u.f1,.int .u64 u.f2,.str u.f3],.tuple []]=[ay.enc Y6,ay.enc Y7]∧∀Ps:Bool,(Ps=true↔Y6=Y7)→af (false==true) (Q (.bool Ps)) (Q (.bool false)))) (af (false==true) (Q (.tuple [])) (Q (.bool false))))) (af ((false==true)==true) False (af ((false==true)==true) ((∃Y8 Y9:ay,[.agg [.int .i64 u.f0,.int .i64 u.f1,.int .u64 u.f2,.str u.f3],.tuple []]=[ay.enc Y8,ay.enc Y9]∧∀Za:Bool,(Za=true↔Y8=Y9)→af (false==true) (Q (.bool Za)) (Q (.bool false)))) (af (false==true) (Q (.tuple [])) (Q (.bool false)))))) (YM A Q a b c d u v)) (af ((false==true)==true) False (YM A Q a b c d u v))) (Q (.bool false)))) (Q (.bool false))):=by kernel_rfl
theorem QD [Env] (A:Nat→List SV→Prop) (Q:V→Prop) (a b:List UInt8) (c d:Int) (u v:ay):WE Tryz.prog 164 Tryz.f164 xg 0 re A (fun v _=>Q v) [.agg [.str a,.int .i64 c,.bool false,.int .i64 u.f0,.int .i64 u.f1,.int .u64 u.f2,.str u.f3],.agg [.str b,.int .i64 d,.bool false,.int .i64 v.f0,.int .i64 v.f1,.int .u64 v.f2,.str v.f3]] Go.Ev.start=
  (af (decide (a=b)) (((.i64:IntKind)=.i64∧af (decide (c=d)) (af ((false==false)==true) (af ((false==false)==true) (af ((false==false)==true) (af ((false==false)==true) (af ((false==false)==true) ((∃TJ TK:ay,[.agg [.int .i64 u.f0,.int .i64 u.f1,.int .u64 u.f2,.str u.f3],.agg [.int .i64 v.f0,.int .i64 v.f1,.int .u64 v.f2,.str v.f3]]=[ay.enc TJ,ay.enc TK]∧∀TL:Bool,(TL=true↔TJ=TK)→af (false==false) (Q (.bool TL)) (Q (.bool false)))) (af (false==false) (Q (.tuple [])) (Q (.bool false)))) (TH A Q a b c d u v)) (af ((false==false)==true) False (TH A Q a b c d u v))) (YK A Q a b c d u v)) (af ((false==false)==true) False (YK A Q a b c d u v))) (Q (.bool false)))) (Q (.bool false))):=by kernel_rfl
def TM [Env] (vs:List V) (σ:St) (k:ah):Prop:=
 ∃x y:aj,vs=[aj.enc x,aj.enc y]∧∀b:Bool,(b=true↔x=y)→k (.bool b) σ
def C5 [Env]:=kS 164 TM xg
def zN:Nat→List Nat:=(fun i=>match i with | 0=>[0,1,5] | _=>[])
theorem aa1 [Env] (A:Nat→List SV→Prop) (Q:V→Prop) (l m:List aj):WE Tryz.prog 129 Tryz.f129 C5 0 zN A (fun v _=>Q v) [ae aj.enc 7 l,ae aj.enc 7 m] Go.Ev.start=
  (((.i64:IntKind)=.i64∧af (decide ((((l.length:Nat):Int))≠(((m.length:Nat):Int)))) (Q (.bool false)) (A 0 [.val (ae aj.enc 7 l),.val (ae aj.enc 7 m),.val (.int .i64 (0:Int))]))):=by kernel_rfl
theorem aa2 [Env] (A:Nat→List SV→Prop) (Q:V→Prop) (l m:List aj) (i:Int):WL Tryz.prog 129 Tryz.f129 C5 0 zN A (fun v _=>Q v) 0 [.val (ae aj.enc 7 l),.val (ae aj.enc 7 m),.val (.int .i64 i)]=
  (((.i64:IntKind)=.i64∧af (decide (i<(((l.length:Nat):Int)))) (((0≤i∧i<((l.length:Nat):Int))∧((0≤i∧i<((m.length:Nat):Int))∧(∃TN TO:aj,[aj.enc (l.getD i.toNat default),aj.enc (m.getD i.toNat default)]=[aj.enc TN,aj.enc TO]∧∀TP:Bool,(TP=true↔TN=TO)→af ((!TP)) (Q (.bool false)) (A 0 [.val (ae aj.enc 7 l),.val (ae aj.enc 7 m),.val (.int .i64 (IntKind.i64.wrap (i+(1:Int))))]))))) (Q (.bool true)))):=by kernel_rfl
def TQ [Env] (vs:List V) (σ:St) (k:ah):Prop:=
 ∃x y:List aj,vs=[ae aj.enc 7 x,ae aj.enc 7 y]∧x.length≤1000000∧∀b:Bool,(b=true↔x=y)→k (.bool b) σ
def Iv [Env]:=kS 129 TQ C5
def KY:Nat→List Nat:=(fun _=>[])
theorem e76 [Env] (A:Nat→List SV→Prop) (Q:V→Prop) (x y:aa):WE Tryz.prog 76 Tryz.f76 Iv 0 KY A (fun v _=>Q v) [aa.enc x,aa.enc y] Go.Ev.start=
  (af (decide (x.f0=y.f0)) (((.i64:IntKind)=.i64∧af (decide (x.f1=y.f1)) ((∃M4 TR:List aj,[ae aj.enc 7 x.f2,ae aj.enc 7 y.f2]=[ae aj.enc 7 M4,ae aj.enc 7 TR]∧M4.length≤1000000∧∀TS:Bool,(TS=true↔M4=TR)→Q (.bool TS))) (Q (.bool false)))) (Q (.bool false))):=by kernel_rfl
def Zb [Env] (vs:List V) (σ:St) (k:ah):Prop:=
 ∃x y:aa,vs=[aa.enc x,aa.enc y]∧x.f2.length≤1000000∧∀b:Bool,(b=true↔x=y)→k (.bool b) σ
def C6 [Env]:=kS 76 Zb Iv
def C7:Nat→List Nat:=(fun i=>match i with | 0=>[0,1,5] | _=>[])
theorem e32 [Env] (A:Nat→List SV→Prop) (Q:V→Prop) (l m:List aa):WE Tryz.prog 32 Tryz.f32 C6 0 C7 A (fun v _=>Q v) [ae aa.enc 3 l,ae aa.enc 3 m] Go.Ev.start=
  (((.i64:IntKind)=.i64∧af (decide ((((l.length:Nat):Int))≠(((m.length:Nat):Int)))) (Q (.bool false)) (A 0 [.val (ae aa.enc 3 l),.val (ae aa.enc 3 m),.val (.int .i64 (0:Int))]))):=by kernel_rfl
theorem r32 [Env] (A:Nat→List SV→Prop) (Q:V→Prop) (l m:List aa) (i:Int):WL Tryz.prog 32 Tryz.f32 C6 0 C7 A (fun v _=>Q v) 0 [.val (ae aa.enc 3 l),.val (ae aa.enc 3 m),.val (.int .i64 i)]=
  (((.i64:IntKind)=.i64∧af (decide (i<(((l.length:Nat):Int)))) (((0≤i∧i<((l.length:Nat):Int))∧((0≤i∧i<((m.length:Nat):Int))∧(∃M5 TT:aa,[aa.enc (l.getD i.toNat default),aa.enc (m.getD i.toNat default)]=[aa.enc M5,aa.enc TT]∧M5.f2.length≤1000000∧∀TU:Bool,(TU=true↔M5=TT)→af ((!TU)) (Q (.bool false)) (A 0 [.val (ae aa.enc 3 l),.val (ae aa.enc 3 m),.val (.int .i64 (IntKind.i64.wrap (i+(1:Int))))]))))) (Q (.bool true)))):=by kernel_rfl
def Zc [Env] (vs:List V) (σ:St) (k:ah):Prop:=
 ∃x y:List aa,vs=[ae aa.enc 3 x,ae aa.enc 3 y]∧(x.length≤1000000∧∀t∈x,t.f2.length≤1000000)∧∀b:Bool,(b=true↔x=y)→k (.bool b) σ
def ud [Env]:=kS 32 Zc C6
def rf:Nat→List Nat:=(fun i=>match i with | 0=>[0,3] | _=>[])
theorem Ko [Env] (A:Nat→List SV→Prop) (Q:V→Prop) (l:List aa):WE Tryz.prog 27 Tryz.f27 ud 0 rf A (fun v _=>Q v) [ae aa.enc 3 l] Go.Ev.start=
  (((.i64:IntKind)=.i64∧af (decide ((((l.length:Nat):Int))>(20:Int))) (Q (.int .i64 (0:Int))) (A 0 [.val (ae aa.enc 3 l),.val (.int .i64 (0:Int))]))):=by kernel_rfl
theorem Zd [Env] (A:Nat→List SV→Prop) (Q:V→Prop) (l:List aa) (i:Int):WL Tryz.prog 27 Tryz.f27 ud 0 rf A (fun v _=>Q v) 0 [.val (ae aa.enc 3 l),.val (.int .i64 i)]=
  (((.i64:IntKind)=.i64∧af (decide (i<(((l.length:Nat):Int)))) (((0≤i∧i<((l.length:Nat):Int))∧((∃aa3:aa,[aa.enc (l.getD i.toNat default)]=[aa.enc aa3])∧((.i64:IntKind)=.i64∧Q (.int .i64 (0:Int)))∧((.i64:IntKind)=.i64∧A 0 [.val (ae aa.enc 3 l),.val (.int .i64 (IntKind.i64.wrap (i+(1:Int))))])))) (Q (.int .i64 (1:Int))))):=by kernel_rfl
def Ze [Env] (vs:List V) (σ:St) (k:ah):Prop:=
 Fl (∃l:List aa,vs=[ae aa.enc 3 l]) σ k
def C8 [Env]:=kS 27 Ze ud
end Go.Proofs.YtbajncpfmemdgaaGreatDoor
end
