/- Proved: parts of the way: BEq14, BEq15, BC4, BC5, BEq16. -/
import Derived.Test.YtbajncpfmemdgaaGreatDoorEvQ19
section
namespace Go.Proofs.YtbajncpfmemdgaaGreatDoor
open Go Go.Ev
def Jt:Nat→List Nat:=(fun _=>[])
theorem aha [Env] (A:Nat→List SV→Prop) (Q:V→Prop) (s:List UInt8) (d:Int):WE Tryz.prog 210 Tryz.f210 Mg 0 Jt A (fun v _=>Q v) [.str s,.int .i64 d] Go.Ev.start=
  (((.i64:IntKind)=.i64∧aa (decide (d=(5:Int))) ((s.length≤64∧aa ((!(dZ s.length s))) (Q (.tuple [.agg [.int .i64 (0:Int),.int .i64 (0:Int),.int .u64 (0:Int),.str ([])],.int .i64 (7:Int)])) (Q (.tuple [.agg [.int .i64 d,.int .i64 (0:Int),.int .u64 (0:Int),.str s],.int .i64 (0:Int)])))) (((.i64:IntKind)=.i64∧aa (decide ((((len s:Nat):Int))≠(8:Int))) (Q (.tuple [.agg [.int .i64 (0:Int),.int .i64 (0:Int),.int .u64 (0:Int),.str ([])],.int .i64 (6:Int)])) (((.i64:IntKind)=.i64∧aa (decide (d=(3:Int))) ((s.length=8∧((0≤(jj s 8)∧(jj s 8)<18446744073709551616)∧Q (.tuple [.agg [.int .i64 d,.int .i64 (0:Int),.int .u64 (fQ (jj s 8)),.str ([])],.int .i64 (0:Int)])))) ((s.length=8∧Q (.tuple [.agg [.int .i64 d,.int .i64 (IntKind.i64.wrap (jj s 8)),.int .u64 (0:Int),.str ([])],.int .i64 (0:Int)]))))))))):=by kernel_rfl
def Rv [Env] (vs:List V) (σ:St) (k:ah):Prop:=
 match vs with
 | [.str x,.int .i64 d]=>((x.length≤64∧(d=2∨d=3∨d=5)))∧k (.tuple [az.enc (gE x d),.int .i64 (jS x d)]) σ
 | _=>False
def Mh [Env]:=kS 210 Rv Mg
def Ju:Nat→List Nat:=(fun _=>[])
abbrev FE [Env] (A:Nat→List SV→Prop) (Q:V→Prop) (s:List UInt8) (d:Int):Prop:=
 ((.i64:IntKind)=.i64∧aa (decide (d=(1:Int))) (Q (.tuple [.agg [.int .i64 (0:Int),.int .i64 (0:Int),.int .u64 (0:Int),.str ([])],.int .i64 (7:Int)])) (((.i64:IntKind)=.i64∧aa (decide ((fF s)≠(0:Int))) (Q (.tuple [.agg [.int .i64 (0:Int),.int .i64 (0:Int),.int .u64 (0:Int),.str ([])],.int .i64 (fF s)])) (Q (.tuple [.agg [.int .i64 d,.int .i64 (hP s),.int .u64 (0:Int),.str ([])],.int .i64 (0:Int)])))))
theorem Mi [Env] (A:Nat→List SV→Prop) (Q:V→Prop) (s:List UInt8) (d:Int):WE Tryz.prog 211 Tryz.f211 Mh 0 Ju A (fun v _=>Q v) [.str s,.int .i64 d] Go.Ev.start=
  (((.i64:IntKind)=.i64∧aa (decide (d=(4:Int))) (Q (.tuple [.agg [.int .i64 d,.int .i64 (0:Int),.int .u64 (0:Int),.str s],.int .i64 (0:Int)])) (((.i64:IntKind)=.i64∧aa (decide (d=(1:Int))) (aa (decide (s=[116,114,117,101])) (Q (.tuple [.agg [.int .i64 d,.int .i64 (1:Int),.int .u64 (0:Int),.str ([])],.int .i64 (0:Int)])) (((.i64:IntKind)=.i64∧aa (decide (d=(1:Int))) (aa (decide (s=[102,97,108,115,101])) (Q (.tuple [.agg [.int .i64 d,.int .i64 (0:Int),.int .u64 (0:Int),.str ([])],.int .i64 (0:Int)])) ((FE A Q s d))) ((FE A Q s d))))) (((.i64:IntKind)=.i64∧aa (decide (d=(1:Int))) (aa (decide (s=[102,97,108,115,101])) (Q (.tuple [.agg [.int .i64 d,.int .i64 (0:Int),.int .u64 (0:Int),.str ([])],.int .i64 (0:Int)])) ((FE A Q s d))) ((FE A Q s d)))))))):=by kernel_rfl
def Rw [Env] (vs:List V) (σ:St) (k:ah):Prop:=
 match vs with
 | [.str x,.int .i64 d]=>((x.length≤64∧(d=1∨d=2∨d=4)))∧k (.tuple [az.enc (ib x d),.int .i64 (iX x d)]) σ
 | _=>False
def Mj [Env]:=kS 211 Rw Mh
def Jv:Nat→List Nat:=(fun _=>[])
theorem Bq [Env] (A:Nat→List SV→Prop) (Q:V→Prop) (v:az) (d:Int):WE Tryz.prog 163 Tryz.f163 Mj 0 Jv A (fun v _=>Q v) [az.enc v,.int .i64 d] Go.Ev.start=
  (((0≤v.f2∧v.f2<18446744073709551616)∧((.i64:IntKind)=.i64∧aa (decide ((bp ⟨v.f0,v.f1,v.f2,v.f3⟩)≠(0:Int))) (Q (.tuple [.agg [.int .i64 (0:Int),.int .i64 (0:Int),.int .u64 (0:Int),.str ([])],.int .i64 (bp ⟨v.f0,v.f1,v.f2,v.f3⟩)])) (((.i64:IntKind)=.i64∧aa (decide (d<(1:Int))) (Q (.tuple [.agg [.int .i64 (0:Int),.int .i64 (0:Int),.int .u64 (0:Int),.str ([])],.int .i64 (5:Int)])) (((.i64:IntKind)=.i64∧aa (decide (d>(5:Int))) (Q (.tuple [.agg [.int .i64 (0:Int),.int .i64 (0:Int),.int .u64 (0:Int),.str ([])],.int .i64 (5:Int)])) (((.i64:IntKind)=.i64∧aa (decide (v.f0=(0:Int))) (Q (.tuple [.agg [.int .i64 v.f0,.int .i64 v.f1,.int .u64 v.f2,.str v.f3],.int .i64 (0:Int)])) (((.i64:IntKind)=.i64∧aa (decide (v.f0=d)) (Q (.tuple [.agg [.int .i64 v.f0,.int .i64 v.f1,.int .u64 v.f2,.str v.f3],.int .i64 (0:Int)])) (aa ((!(jh v.f0 d))) (Q (.tuple [.agg [.int .i64 (0:Int),.int .i64 (0:Int),.int .u64 (0:Int),.str ([])],.int .i64 (5:Int)])) (((.i64:IntKind)=.i64∧aa (decide (v.f0=(1:Int))) ((((v.f1=0∨v.f1=1)∧(d=2∨d=3∨d=5))∧Q (.tuple [.agg [.int .i64 ((iW v.f1 d).f0),.int .i64 ((iW v.f1 d).f1),.int .u64 ((iW v.f1 d).f2),.str ((iW v.f1 d).f3)],.int .i64 ((0:Int))]))) (((.i64:IntKind)=.i64∧aa (decide (v.f0=(2:Int))) (((dR v.f1∧(d=1∨d=3∨d=4∨d=5))∧Q (.tuple [.agg [.int .i64 ((dq v.f1 d).f0),.int .i64 ((dq v.f1 d).f1),.int .u64 ((dq v.f1 d).f2),.str ((dq v.f1 d).f3)],.int .i64 (ft v.f1 d)]))) (((.i64:IntKind)=.i64∧aa (decide (v.f0=(3:Int))) (((oq v.f2∧(d=1∨d=2∨d=4))∧Q (.tuple [.agg [.int .i64 ((iK v.f2 d).f0),.int .i64 ((iK v.f2 d).f1),.int .u64 ((iK v.f2 d).f2),.str ((iK v.f2 d).f3)],.int .i64 (kV v.f2 d)]))) (((.i64:IntKind)=.i64∧aa (decide (v.f0=(4:Int))) (((v.f3.length≤64∧(d=2∨d=3∨d=5))∧Q (.tuple [.agg [.int .i64 ((gE v.f3 d).f0),.int .i64 ((gE v.f3 d).f1),.int .u64 ((gE v.f3 d).f2),.str ((gE v.f3 d).f3)],.int .i64 (jS v.f3 d)]))) (((v.f3.length≤64∧(d=1∨d=2∨d=4))∧Q (.tuple [.agg [.int .i64 ((ib v.f3 d).f0),.int .i64 ((ib v.f3 d).f1),.int .u64 ((ib v.f3 d).f2),.str ((ib v.f3 d).f3)],.int .i64 (iX v.f3 d)]))))))))))))))))))))))):=by kernel_rfl
def Rx [Env] (vs:List V) (σ:St) (k:ah):Prop:=
 match vs with
 | [.agg [.int .i64 a,.int .i64 b,.int .u64 c,.str s],.int .i64 d]=>zP ⟨a,b,c,s⟩∧k (.tuple [az.enc (j3 ⟨a,b,c,s⟩ d),.int .i64 (FB ⟨a,b,c,s⟩ d)]) σ
 | _=>False
def Mk [Env]:=kS 163 Rx Mj
end Go.Proofs.YtbajncpfmemdgaaGreatDoor
end
section
namespace Go.Proofs.YtbajncpfmemdgaaGreatDoor
open Go Go.Ev
def Jw:Nat→List Nat:=(fun _=>[])
theorem ahb [Env] (A:Nat→List SV→Prop) (Q:V→Prop) (x d:Int):WE Tryz.prog 255 Tryz.f255 Mk 0 Jw A (fun v _=>Q v) [.int .i64 x,.int .i64 d] Go.Ev.start=
  (((.i64:IntKind)=.i64∧aa (decide (d=(1:Int))) (((.i64:IntKind)=.i64∧aa (decide (x≠(0:Int))) (((.i64:IntKind)=.i64∧aa (decide (x≠(1:Int))) (Q (.func (.func 265) [] [.aU [.int .i64 (6:Int)] 0])) (Q (.func (.func 266) [] [.aU [.int .i64 d,.int .i64 x,.int .u64 (0:Int),.str ([])] 0])))) (Q (.func (.func 266) [] [.aU [.int .i64 d,.int .i64 x,.int .u64 (0:Int),.str ([])] 0])))) (((.i64:IntKind)=.i64∧aa (decide (d=(3:Int))) ((dR x∧aa ((!(qe x))) (Q (.func (.func 265) [] [.aU [.int .i64 (6:Int)] 0])) (Q (.func (.func 266) [] [.aU [.int .i64 d,.int .i64 (0:Int),.int .u64 (xJ x),.str ([])] 0])))) (((.i64:IntKind)=.i64∧aa (decide (d=(4:Int))) (Q (.func (.func 266) [] [.aU [.int .i64 d,.int .i64 (0:Int),.int .u64 (0:Int),.str (lz (IntKind.u64.wrap x) 8)] 0])) (((.i64:IntKind)=.i64∧aa (decide (d=(5:Int))) ((dR x∧Q (.func (.func 266) [] [.aU [.int .i64 d,.int .i64 (0:Int),.int .u64 (0:Int),.str (gp x)] 0]))) (Q (.func (.func 266) [] [.aU [.int .i64 d,.int .i64 x,.int .u64 (0:Int),.str ([])] 0])))))))))):=by kernel_rfl
def Ry [Env] (vs:List V) (σ:St) (k:ah):Prop:=
 match vs with
 | [.int .i64 x,.int .i64 d]=>((dR x∧(d=1∨d=2∨d=3∨d=4∨d=5)))∧w6 (ft x d) (dq x d) σ k
 | _=>False
def FF [Env]:=kS 255 Ry Mk
def Br:Nat→List Nat:=(fun _=>[])
theorem Zi [Env] (A:Nat→List SV→Prop) (Q:V→Prop) (d:Int):WE Tryz.prog 254 Tryz.f254 FF 0 Br A (fun v _=>Q v) [.int .i64 (0:Int),.int .i64 d] Go.Ev.start=
  (((.i64:IntKind)=.i64∧aa (decide (d=(5:Int))) (Q (.func (.func 266) [] [.aU [.int .i64 d,.int .i64 (0:Int),.int .u64 (0:Int),.str ([102,97,108,115,101])] 0])) (((dR (0:Int)∧(d=1∨d=2∨d=3∨d=4∨d=5))∧((ft (0:Int) d=0→Q (.func (.func 266) [] [.aU [.int .i64 ((dq (0:Int) d).f0),.int .i64 ((dq (0:Int) d).f1),.int .u64 ((dq (0:Int) d).f2),.str ((dq (0:Int) d).f3)] 0]))∧(ft (0:Int) d≠0→Q (.func (.func 265) [] [.aU [.int .i64 (ft (0:Int) d)] 0]))))))):=by kernel_rfl
theorem Zj [Env] (A:Nat→List SV→Prop) (Q:V→Prop) (d:Int):WE Tryz.prog 254 Tryz.f254 FF 0 Br A (fun v _=>Q v) [.int .i64 (1:Int),.int .i64 d] Go.Ev.start=
  (((.i64:IntKind)=.i64∧aa (decide (d=(5:Int))) (Q (.func (.func 266) [] [.aU [.int .i64 d,.int .i64 (0:Int),.int .u64 (0:Int),.str ([116,114,117,101])] 0])) (((dR (1:Int)∧(d=1∨d=2∨d=3∨d=4∨d=5))∧((ft (1:Int) d=0→Q (.func (.func 266) [] [.aU [.int .i64 ((dq (1:Int) d).f0),.int .i64 ((dq (1:Int) d).f1),.int .u64 ((dq (1:Int) d).f2),.str ((dq (1:Int) d).f3)] 0]))∧(ft (1:Int) d≠0→Q (.func (.func 265) [] [.aU [.int .i64 (ft (1:Int) d)] 0]))))))):=by kernel_rfl
def Rz [Env] (vs:List V) (σ:St) (k:ah):Prop:=
 match vs with
 | [.int .i64 x,.int .i64 d]=>(((x=0∨x=1)∧(d=2∨d=3∨d=5)))∧w6 ((0:Int)) (iW x d) σ k
 | _=>False
def Ml [Env]:=kS 254 Rz FF
def Jx:Nat→List Nat:=(fun _=>[])
theorem ahc [Env] (A:Nat→List SV→Prop) (Q:V→Prop) (x d:Int):WE Tryz.prog 256 Tryz.f256 Ml 0 Jx A (fun v _=>Q v) [.int .u64 x,.int .i64 d] Go.Ev.start=
  (((.i64:IntKind)=.i64∧aa (decide (d=(4:Int))) (Q (.func (.func 266) [] [.aU [.int .i64 d,.int .i64 (0:Int),.int .u64 (0:Int),.str (lz x 8)] 0])) ((oq x∧aa ((!(qU x))) (Q (.func (.func 265) [] [.aU [.int .i64 (6:Int)] 0])) (((dR (iR x)∧(d=1∨d=2∨d=3∨d=4∨d=5))∧((ft (iR x) d=0→Q (.func (.func 266) [] [.aU [.int .i64 ((dq (iR x) d).f0),.int .i64 ((dq (iR x) d).f1),.int .u64 ((dq (iR x) d).f2),.str ((dq (iR x) d).f3)] 0]))∧(ft (iR x) d≠0→Q (.func (.func 265) [] [.aU [.int .i64 (ft (iR x) d)] 0]))))))))):=by kernel_rfl
def RA [Env] (vs:List V) (σ:St) (k:ah):Prop:=
 match vs with
 | [.int .u64 x,.int .i64 d]=>((oq x∧(d=1∨d=2∨d=4)))∧w6 (kV x d) (iK x d) σ k
 | _=>False
def FG [Env]:=kS 256 RA Ml
def Bs:Nat→List Nat:=(fun i=>match i with | 0=>[1,5,30,31,32] | _=>[])
abbrev RB [Env] (A:Nat→List SV→Prop) (Q:V→Prop) (s:List UInt8) (d:Int):Prop:=
 ((.i64:IntKind)=.i64∧aa (decide (d=(5:Int))) (Q (.func (.func 266) [] [.aU [.int .i64 d,.int .i64 (0:Int),.int .u64 (0:Int),.str s] 0])) (((.i64:IntKind)=.i64∧aa (decide ((((len s:Nat):Int))≠(8:Int))) (Q (.func (.func 265) [] [.aU [.int .i64 (6:Int)] 0])) ((len s≤1099511627776∧(((len s)=(len s)∧1=1)∧A 0 [.val (.int .i64 d),.val (.int .u64 (0:Int)),.row (len s) (dM s) 1,.val (.int .i64 (((len s:Nat):Int))),.val (.int .i64 (0:Int))]))))))
theorem Mm [Env] (A:Nat→List SV→Prop) (Q:V→Prop) (s:List UInt8) (d:Int):WE Tryz.prog 257 Tryz.f257 FG 0 Bs A (fun v _=>Q v) [.str s,.int .i64 d] Go.Ev.start=
  (((.i64:IntKind)=.i64∧aa (decide (d=(5:Int))) ((s.length≤64∧aa ((!(dZ s.length s))) (Q (.func (.func 265) [] [.aU [.int .i64 (7:Int)] 0])) ((RB A Q s d)))) ((RB A Q s d)))):=by kernel_rfl
theorem ahd [Env] (A:Nat→List SV→Prop) (Q:V→Prop) (t:List UInt8) (d n m i:Int):WL Tryz.prog 257 Tryz.f257 FG 0 Bs A (fun v _=>Q v) 0 [.val (.int .i64 d),.val (.int .u64 n),.row (len t) (dM t) 1,.val (.int .i64 m),.val (.int .i64 i)]=
  (((.i64:IntKind)=.i64∧aa (decide (i<m)) (((0≤i∧i<((len t:Nat):Int))∧(i.toNat<len t∧(0≤(8:Int)∧(((len t)=(len t)∧1=1)∧A 0 [.val (.int .i64 d),.val (.int .u64 (IntKind.u64.wrap (BitVec.ofInt IntKind.u64.bits (IntKind.u64.wrap (n*2^min (8:Int).toNat IntKind.u64.bits))||| BitVec.ofInt IntKind.u64.bits (IntKind.u64.wrap (aw t i.toNat))).toNat)),.row (len t) (dM t) 1,.val (.int .i64 m),.val (.int .i64 (IntKind.i64.wrap (i+(1:Int))))]))))) (((.i64:IntKind)=.i64∧aa (decide (d=(3:Int))) (((0≤n∧n<18446744073709551616)∧Q (.func (.func 266) [] [.aU [.int .i64 d,.int .i64 (0:Int),.int .u64 (fQ n),.str ([])] 0]))) (Q (.func (.func 266) [] [.aU [.int .i64 d,.int .i64 (IntKind.i64.wrap n),.int .u64 (0:Int),.str ([])] 0])))))):=by kernel_rfl
def RC [Env] (vs:List V) (σ:St) (k:ah):Prop:=
 match vs with
 | [.str x,.int .i64 d]=>((x.length≤64∧(d=2∨d=3∨d=5)))∧w6 (jS x d) (gE x d) σ k
 | _=>False
def yl [Env]:=kS 257 RC FG
def sv:Nat→List Nat:=(fun i=>match i with | 0=>[0,1,18,19] | _=>[])
theorem ahe [Env] (A:Nat→List SV→Prop) (Q:V→Prop) (s:List UInt8) (d:Int):WE Tryz.prog 258 Tryz.f258 yl 0 sv A (fun v _=>Q v) [.str s,.int .i64 d] Go.Ev.start=
  (((.i64:IntKind)=.i64∧aa (decide (d=(4:Int))) (Q (.func (.func 266) [] [.aU [.int .i64 d,.int .i64 (0:Int),.int .u64 (0:Int),.str s] 0])) (((.i64:IntKind)=.i64∧aa (decide (d=(1:Int))) (A 0 [.val (.str s),.val (.int .i64 d),.val (.agg [.str ([102,97,108,115,101]),.str ([116,114,117,101])]),.val (.int .i64 (0:Int))]) (((.i64:IntKind)=.i64∧aa (decide ((fF s)≠(0:Int))) (Q (.func (.func 265) [] [.aU [.int .i64 (fF s)] 0])) (Q (.func (.func 266) [] [.aU [.int .i64 d,.int .i64 (hP s),.int .u64 (0:Int),.str ([])] 0])))))))):=by kernel_rfl
theorem Zk [Env] (A:Nat→List SV→Prop) (Q:V→Prop) (s:List UInt8) (d:Int):WL Tryz.prog 258 Tryz.f258 yl 0 sv A (fun v _=>Q v) 0 [.val (.str s),.val (.int .i64 d),.val (.agg [.str ([102,97,108,115,101]),.str ([116,114,117,101])]),.val (.int .i64 (0:Int))]=
  (((.i64:IntKind)=.i64∧aa (decide ([102,97,108,115,101]=s)) (Q (.func (.func 266) [] [.aU [.int .i64 d,.int .i64 (0:Int),.int .u64 (0:Int),.str ([])] 0])) (A 0 [.val (.str s),.val (.int .i64 d),.val (.agg [.str ([102,97,108,115,101]),.str ([116,114,117,101])]),.val (.int .i64 (1:Int))]))):=by kernel_rfl
theorem Zl [Env] (A:Nat→List SV→Prop) (Q:V→Prop) (s:List UInt8) (d:Int):WL Tryz.prog 258 Tryz.f258 yl 0 sv A (fun v _=>Q v) 0 [.val (.str s),.val (.int .i64 d),.val (.agg [.str ([102,97,108,115,101]),.str ([116,114,117,101])]),.val (.int .i64 (1:Int))]=
  (((.i64:IntKind)=.i64∧aa (decide ([116,114,117,101]=s)) (Q (.func (.func 266) [] [.aU [.int .i64 d,.int .i64 (1:Int),.int .u64 (0:Int),.str ([])] 0])) (A 0 [.val (.str s),.val (.int .i64 d),.val (.agg [.str ([102,97,108,115,101]),.str ([116,114,117,101])]),.val (.int .i64 (2:Int))]))):=by kernel_rfl
theorem Zm [Env] (A:Nat→List SV→Prop) (Q:V→Prop) (s:List UInt8) (d:Int):WL Tryz.prog 258 Tryz.f258 yl 0 sv A (fun v _=>Q v) 0 [.val (.str s),.val (.int .i64 d),.val (.agg [.str ([102,97,108,115,101]),.str ([116,114,117,101])]),.val (.int .i64 (2:Int))]=
  (((.i64:IntKind)=.i64∧Q (.func (.func 265) [] [.aU [.int .i64 (7:Int)] 0]))):=by kernel_rfl
def RD [Env] (vs:List V) (σ:St) (k:ah):Prop:=
 match vs with
 | [.str x,.int .i64 d]=>((x.length≤64∧(d=1∨d=2∨d=4)))∧w6 (iX x d) (ib x d) σ k
 | _=>False
def Mn [Env]:=kS 258 RD yl
def Jy:Nat→List Nat:=(fun _=>[])
theorem ahf [Env] (A:Nat→List SV→Prop) (Q:V→Prop) (v:az) (d:Int):WE Tryz.prog 228 Tryz.f228 Mn 0 Jy A (fun v _=>Q v) [az.enc v,.int .i64 d] Go.Ev.start=
  (((0≤v.f2∧v.f2<18446744073709551616)∧((.i64:IntKind)=.i64∧aa (decide ((bp ⟨v.f0,v.f1,v.f2,v.f3⟩)≠(0:Int))) (Q (.tuple [.agg [.int .i64 (0:Int),.int .i64 (0:Int),.int .u64 (0:Int),.str ([])],.int .i64 (bp ⟨v.f0,v.f1,v.f2,v.f3⟩)])) (((.i64:IntKind)=.i64∧aa (decide (d<(1:Int))) (Q (.tuple [.agg [.int .i64 (0:Int),.int .i64 (0:Int),.int .u64 (0:Int),.str ([])],.int .i64 (5:Int)])) (((.i64:IntKind)=.i64∧aa (decide (d>(5:Int))) (Q (.tuple [.agg [.int .i64 (0:Int),.int .i64 (0:Int),.int .u64 (0:Int),.str ([])],.int .i64 (5:Int)])) (((.i64:IntKind)=.i64∧aa (decide (v.f0=(0:Int))) (Q (.tuple [.agg [.int .i64 v.f0,.int .i64 v.f1,.int .u64 v.f2,.str v.f3],.int .i64 (0:Int)])) (((.i64:IntKind)=.i64∧aa (decide (v.f0=d)) (Q (.tuple [.agg [.int .i64 v.f0,.int .i64 v.f1,.int .u64 v.f2,.str v.f3],.int .i64 (0:Int)])) (aa ((!(jh v.f0 d))) (Q (.tuple [.agg [.int .i64 (0:Int),.int .i64 (0:Int),.int .u64 (0:Int),.str ([])],.int .i64 (5:Int)])) (((.i64:IntKind)=.i64∧aa (decide (v.f0=(1:Int))) ((((v.f1=0∨v.f1=1)∧(d=2∨d=3∨d=5))∧(((0:Int)=0→Q (.tuple [.agg [.int .i64 ((iW v.f1 d).f0),.int .i64 ((iW v.f1 d).f1),.int .u64 ((iW v.f1 d).f2),.str ((iW v.f1 d).f3)],.int .i64 (0:Int)]))∧((0:Int)≠0→Q (.tuple [.agg [.int .i64 (0:Int),.int .i64 (0:Int),.int .u64 (0:Int),.str ([])],.int .i64 ((0:Int))]))))) (((.i64:IntKind)=.i64∧aa (decide (v.f0=(2:Int))) (((dR v.f1∧(d=1∨d=2∨d=3∨d=4∨d=5))∧((ft v.f1 d=0→Q (.tuple [.agg [.int .i64 ((dq v.f1 d).f0),.int .i64 ((dq v.f1 d).f1),.int .u64 ((dq v.f1 d).f2),.str ((dq v.f1 d).f3)],.int .i64 (0:Int)]))∧(ft v.f1 d≠0→Q (.tuple [.agg [.int .i64 (0:Int),.int .i64 (0:Int),.int .u64 (0:Int),.str ([])],.int .i64 (ft v.f1 d)]))))) (((.i64:IntKind)=.i64∧aa (decide (v.f0=(3:Int))) (((oq v.f2∧(d=1∨d=2∨d=4))∧((kV v.f2 d=0→Q (.tuple [.agg [.int .i64 ((iK v.f2 d).f0),.int .i64 ((iK v.f2 d).f1),.int .u64 ((iK v.f2 d).f2),.str ((iK v.f2 d).f3)],.int .i64 (0:Int)]))∧(kV v.f2 d≠0→Q (.tuple [.agg [.int .i64 (0:Int),.int .i64 (0:Int),.int .u64 (0:Int),.str ([])],.int .i64 (kV v.f2 d)]))))) (((.i64:IntKind)=.i64∧aa (decide (v.f0=(4:Int))) (((v.f3.length≤64∧(d=2∨d=3∨d=5))∧((jS v.f3 d=0→Q (.tuple [.agg [.int .i64 ((gE v.f3 d).f0),.int .i64 ((gE v.f3 d).f1),.int .u64 ((gE v.f3 d).f2),.str ((gE v.f3 d).f3)],.int .i64 (0:Int)]))∧(jS v.f3 d≠0→Q (.tuple [.agg [.int .i64 (0:Int),.int .i64 (0:Int),.int .u64 (0:Int),.str ([])],.int .i64 (jS v.f3 d)]))))) (((v.f3.length≤64∧(d=1∨d=2∨d=4))∧((iX v.f3 d=0→Q (.tuple [.agg [.int .i64 ((ib v.f3 d).f0),.int .i64 ((ib v.f3 d).f1),.int .u64 ((ib v.f3 d).f2),.str ((ib v.f3 d).f3)],.int .i64 (0:Int)]))∧(iX v.f3 d≠0→Q (.tuple [.agg [.int .i64 (0:Int),.int .i64 (0:Int),.int .u64 (0:Int),.str ([])],.int .i64 (iX v.f3 d)]))))))))))))))))))))))))):=by kernel_rfl
def RE [Env] (vs:List V) (σ:St) (k:ah):Prop:=
 match vs with
 | [.agg [.int .i64 a,.int .i64 b,.int .u64 c,.str s],.int .i64 d]=>zP ⟨a,b,c,s⟩∧k (.tuple [az.enc (j3 ⟨a,b,c,s⟩ d),.int .i64 (FB ⟨a,b,c,s⟩ d)]) σ
 | _=>False
def Mo [Env]:=kS 228 RE Mn
end Go.Proofs.YtbajncpfmemdgaaGreatDoor
end
section
namespace Go.Proofs.YtbajncpfmemdgaaGreatDoor
open Go Go.Ev Go.IntWalk Go.Ev.Flt
theorem F241:bl Tryz.prog 241 Tryz.f241:=.of (by kernel_rfl) (by kernel_rfl)
theorem F207:bl Tryz.prog 207 Tryz.f207:=.of (by kernel_rfl) (by kernel_rfl)
theorem F208:bl Tryz.prog 208 Tryz.f208:=.of (by kernel_rfl) (by kernel_rfl)
theorem F209:bl Tryz.prog 209 Tryz.f209:=.of (by kernel_rfl) (by kernel_rfl)
theorem F244:bl Tryz.prog 244 Tryz.f244:=.of (by kernel_rfl) (by kernel_rfl)
theorem F210:bl Tryz.prog 210 Tryz.f210:=.of (by kernel_rfl) (by kernel_rfl)
theorem F211:bl Tryz.prog 211 Tryz.f211:=.of (by kernel_rfl) (by kernel_rfl)
theorem F163:bl Tryz.prog 163 Tryz.f163:=.of (by kernel_rfl) (by kernel_rfl)
theorem Ut {c:Prop} [Decidable c] {Y Z:Prop} (h:c) (y:Y):aa (decide c) Y Z:=by rw[decide_eq_true h];exact y
theorem Uu {c:Prop} [Decidable c] {Y Z:Prop} (h:¬c) (z:Z):aa (decide c) Y Z:=by rw[decide_eq_false h];exact z
theorem wg {b:Bool} {Y Z:Prop} (y:b=false→Y) (z:b=true→Z):aa (!b) Y Z:=by cases b<;>first | exact y rfl | exact z rfl
theorem rP {a b c e e':Int} {s:List UInt8} {v:az} (hv:v=⟨a,b,c,s⟩) (he:e'=e):V.tuple [.agg [.int .i64 a,.int .i64 b,.int .u64 c,.str s],.int .i64 e]=.tuple [az.enc v,.int .i64 e']:=by subst hv;subst he;rfl
theorem OU (b:Int):dR (iR b):=by
 unfold iR
 split
 ·rename_i h
  obtain⟨_,_,_,_,h1,h2⟩:=Classical.choose_spec h
  exact⟨h1,by omega⟩
 ·exact⟨by decide,by decide⟩
theorem OW (x:Int):0≤IntKind.u64.wrap x∧IntKind.u64.wrap x<18446744073709551616:=by rw[wrap_u64];omega
theorem wh {s:List UInt8} {n:Nat} (h:0≤jj s n):IntKind.u64.wrap (BitVec.ofInt IntKind.u64.bits (IntKind.u64.wrap ((jj s n)*2^min (8:Int).toNat IntKind.u64.bits))||| BitVec.ofInt IntKind.u64.bits (IntKind.u64.wrap (aw s n))).toNat=jj s (n+1):=by
 have hb:=iP s n
 obtain⟨x,hx⟩:∃x:Nat,jj s n=x:=⟨(jj s n).toNat,(Int.toNat_of_nonneg h).symm⟩
 obtain⟨y,hy⟩:∃y:Nat,aw s n=y:=⟨(aw s n).toNat,(Int.toNat_of_nonneg hb.1).symm⟩
 have h8:=Bn x 8 (by decide)
 rw[show((8:Nat):Int)=(8:Int) from rfl] at h8
 have e:IntKind.u64.wrap (aw s n)=((y:Nat):Int):=by rw[wrap_u64,hy];omega
 rw[hx,h8,e,Jf (Nat.mod_lt _ (by decide)) (by omega)]
 rw[show x*2^8%18446744073709551616=2^8*(x%72057594037927936) by omega,zO (by omega)]
 unfold jj
 rw[hx,hy]
 omega
theorem sw {s:List UInt8}:∀n,0≤jj s n∧jj s n<18446744073709551616
 | 0=>⟨Int.le_refl _,(by decide:(0:Int)<18446744073709551616)⟩
 | n+1=>by rw[←wh (sw n).1];exact OW _
def ahg (s:List UInt8):Nat→List SV→Prop
 | 0,ss=>∃i:Nat,i≤8∧ss=[.val (.str s),.val (.int .u64 (jj s i)),.val (.int .i64 ((i:Nat):Int))]
 | _,_=>False
section
variable [Env] [aZ] {vs:List V} {σ:St} {k:ah}
omit [aZ] in
theorem wk {v:az} {e:Int}:eA (.tuple [az.enc v,.int .i64 e]):=.tuple (bN (.agg (bN (.int _ _) (bN (.int _ _) (bN (.int _ _) (bN (.str _) gn))))) (bN (.int _ _) gn))
theorem V5 (h:Rq vs σ k):ag Tryz.prog 241 vs k σ:=by
 unfold Rq at h
 split at h
 ·rename_i x
  refine ag.cj (av (Go.Ev.Clean.int _ _) aM) wk (F241.flat (live:=Jp) (call:=L9) (n₀:=0) (σ:=Go.Ev.start) (fun h=>Jn h) rfl (by kernel_rfl) ?_) h
  rw[ag5]
  refine⟨rfl,aq (fun h1=>⟨rfl,aq (fun h2=>?_) fun h2=>?_⟩) fun h1=>?_⟩<;>refine rP ?_ ?_
  ·unfold dq;rw[if_pos rfl,if_neg (by omega)];rfl
  ·unfold ft;rw[if_pos rfl,if_neg (by omega)]
  ·unfold dq;rw[if_pos rfl,if_pos (by omega)]
  ·unfold ft;rw[if_pos rfl,if_pos (by omega)]
  ·unfold dq;rw[if_pos rfl,if_pos (by omega)]
  ·unfold ft;rw[if_pos rfl,if_pos (by omega)]
 ·exact h.elim
theorem Jz:∀ {f:FuncId} {vs:List V} {σ:St} {k:ah},Md f vs σ k→ag Tryz.prog f vs k σ:=fun h=>aH V5 Jn h
omit [Env] [aZ] in
theorem Zn {n:Int} (h:n=0∨n=1):qe n=true:=by rcases h with rfl | rfl<;>decide
theorem V6 (h:Rr vs σ k):ag Tryz.prog 207 vs k σ:=by
 unfold Rr at h
 split at h
 ·rename_i x d
  obtain⟨⟨hx,hd⟩,h⟩:=h
  refine ag.cj (av (Go.Ev.Clean.int _ _) (av (Go.Ev.Clean.int _ _) aM)) wk (F207.flat (live:=Jq) (call:=Md) (n₀:=0) (σ:=Go.Ev.start) (fun h=>Jz h) rfl (by kernel_rfl) ?_) h
  rw[ag6]
  unfold iW dq
  refine⟨rfl,aq (fun h1=>?_) fun h1=>⟨rfl,aq (fun h2=>⟨?_,?_⟩) fun h2=>⟨rfl,aq (fun h3=>?_) fun h3=>?_⟩⟩⟩
  ·subst h1;exact rP rfl rfl
  ·rcases hx with rfl | rfl<;>exact⟨by decide,by decide⟩
  ·subst h2
   refine rP ?_ rfl
   rw[if_neg (by decide),if_neg (by decide),if_pos rfl,if_pos (Zn hx)]
  ·obtain rfl:d=5:=by omega
   refine rP ?_ rfl
   rw[if_pos rfl,if_pos h3];rfl
  ·obtain rfl:d=5:=by omega
   refine rP ?_ rfl
   rw[if_pos rfl,if_neg h3];rfl
 ·exact h.elim
theorem JA:∀ {f:FuncId} {vs:List V} {σ:St} {k:ah},Me f vs σ k→ag Tryz.prog f vs k σ:=fun h=>aH V6 Jz h
theorem V7 (h:Rs vs σ k):ag Tryz.prog 208 vs k σ:=by
 unfold Rs at h
 split at h
 ·rename_i x d
  obtain⟨⟨hx,hd⟩,h⟩:=h
  refine ag.cj (av (Go.Ev.Clean.int _ _) (av (Go.Ev.Clean.int _ _) aM)) wk (F208.flat (live:=Jr) (call:=Me) (n₀:=0) (σ:=Go.Ev.start) (fun h=>JA h) rfl (by kernel_rfl) ?_) h
  rw[ag7]
  refine⟨rfl,aq (fun h1=>?_) fun h1=>⟨rfl,aq (fun h2=>⟨hx,wg (fun h3=>?_) fun h3=>?_⟩) fun h2=>⟨rfl,aq (fun h3=>?_) fun h3=>⟨hx,?_⟩⟩⟩⟩
  ·subst h1;rfl
  ·subst h2
   refine rP ?_ ?_
   ·unfold dq;rw[if_neg (by decide),if_pos rfl,if_neg (by rw[h3];decide)];rfl
   ·unfold ft;rw[if_neg (by decide),if_pos rfl,if_neg (by rw[h3];decide)]
  ·subst h2
   refine rP ?_ ?_
   ·unfold dq;rw[if_neg (by decide),if_pos rfl,if_pos h3]
   ·unfold ft;rw[if_neg (by decide),if_pos rfl,if_pos h3]
  ·subst h3;exact rP rfl rfl
  ·obtain rfl:d=5:=by omega
   exact rP rfl rfl
 ·exact h.elim
theorem JB:∀ {f:FuncId} {vs:List V} {σ:St} {k:ah},Mf f vs σ k→ag Tryz.prog f vs k σ:=fun h=>aH V7 JA h
theorem V8 (h:Rt vs σ k):ag Tryz.prog 209 vs k σ:=by
 unfold Rt at h
 split at h
 ·rename_i x d
  obtain⟨⟨hx,hd⟩,h⟩:=h
  refine ag.cj (av (Go.Ev.Clean.int _ _) (av (Go.Ev.Clean.int _ _) aM)) wk (F209.flat (live:=Js) (call:=Mf) (n₀:=0) (σ:=Go.Ev.start) (fun h=>JB h) rfl (by kernel_rfl) ?_) h
  rw[ag8]
  refine⟨rfl,aq (fun h1=>?_) fun h1=>⟨hx,wg (fun h3=>?_) fun h3=>⟨rfl,aq (fun h2=>?_) fun h2=>?_⟩⟩⟩
  ·subst h1;exact rP rfl rfl
  ·refine rP ?_ ?_
   ·unfold iK;rw[if_neg h1,if_neg (by rw[h3];decide)];rfl
   ·unfold kV;rw[if_neg h1,if_neg (by rw[h3];decide)]
  ·subst h2
   refine rP ?_ ?_
   ·unfold iK;rw[if_neg h1,if_pos h3]
   ·unfold kV;rw[if_neg h1,if_pos h3]
  ·obtain rfl:d=2:=by omega
   refine rP ?_ ?_
   ·unfold iK;rw[if_neg h1,if_pos h3];rfl
   ·unfold kV;rw[if_neg h1,if_pos h3];rfl
 ·exact h.elim
theorem JC:∀ {f:FuncId} {vs:List V} {σ:St} {k:ah},FC f vs σ k→ag Tryz.prog f vs k σ:=fun h=>aH V8 JB h
theorem V9 (h:Ru vs σ k):ag Tryz.prog 244 vs k σ:=by
 unfold Ru at h
 split at h
 ·rename_i s
  obtain⟨hs,h⟩:=h
  refine ag.cj (av (Go.Ev.Clean.str _) aM) (.int _ _) (F244.cf (live:=Bp) (call:=FC) (n₀:=0) (σ:=Go.Ev.start) (fun h=>JC h) rfl 1 (by kernel_rfl) Nat.lt_wfRel.wf (fun _ ss=>8-cb ss) (ahg s) ?_ ?_ ?_) h
  ·intro k ss hI
   cases k with
   | zero=>obtain⟨i,_,rfl⟩:=hI;exact gD (aG (aG bG))
   | succ k=>exact hI.elim
  ·rw[FD]
   exact⟨0,by decide,rfl⟩
  ·intro k hk ss hI
   obtain rfl:k=0:=by omega
   obtain⟨i,hi,rfl⟩:=hI
   rw[ag9,hL]
   refine⟨rfl,aq (fun h1=>⟨by decide,⟨by omega,by omega⟩,⟨i+1,by omega,?_⟩,?_⟩) fun h1=>?_⟩
   ·rw[show bF s ((i:Nat):Int)=aw s i from rfl,wh (sw i).1,i64_in ((i:Int)+1) (by omega)];rfl
   ·show 8-(IntKind.i64.wrap (((i:Nat):Int)+1)).toNat<8-(((i:Nat):Int)).toNat
    rw[i64_in ((i:Int)+1) (by omega)];omega
   ·obtain rfl:i=8:=by omega
    rfl
 ·exact h.elim
theorem JD:∀ {f:FuncId} {vs:List V} {σ:St} {k:ah},Mg f vs σ k→ag Tryz.prog f vs k σ:=fun h=>aH V9 JC h
theorem Wa (h:Rv vs σ k):ag Tryz.prog 210 vs k σ:=by
 unfold Rv at h
 split at h
 ·rename_i s d
  obtain⟨⟨hx,hd⟩,h⟩:=h
  refine ag.cj (av (Go.Ev.Clean.str _) (av (Go.Ev.Clean.int _ _) aM)) wk (F210.flat (live:=Jt) (call:=Mg) (n₀:=0) (σ:=Go.Ev.start) (fun h=>JD h) rfl (by kernel_rfl) ?_) h
  rw[aha,hL]
  unfold gE jS
  refine⟨rfl,aq (fun h1=>⟨hx,wg (fun h3=>?_) fun h3=>?_⟩) fun h1=>⟨rfl,aq (fun h2=>?_) fun h2=>?_⟩⟩
  ·refine rP ?_ ?_
   ·rw[if_pos h1,if_neg (by rw[h3];decide)];rfl
   ·rw[if_pos h1,if_neg (by rw[h3];decide)]
  ·refine rP ?_ ?_
   ·rw[if_pos h1,if_pos h3]
   ·rw[if_pos h1,if_pos h3]
  ·refine rP ?_ ?_
   ·rw[if_neg h1,if_neg (by omega)];rfl
   ·rw[if_neg h1,if_neg (by omega)]
  ·have h8:s.length=8:=by omega
   refine⟨rfl,aq (fun h3=>⟨h8,sw 8,?_⟩) fun h3=>⟨h8,?_⟩⟩
   ·refine rP ?_ ?_
    ·rw[if_neg h1,if_pos h8,if_pos h3]
    ·rw[if_neg h1,if_pos h8]
   ·refine rP ?_ ?_
    ·rw[if_neg h1,if_pos h8,if_neg h3]
    ·rw[if_neg h1,if_pos h8]
 ·exact h.elim
theorem JE:∀ {f:FuncId} {vs:List V} {σ:St} {k:ah},Mh f vs σ k→ag Tryz.prog f vs k σ:=fun h=>aH Wa JD h
theorem Wb (h:Rw vs σ k):ag Tryz.prog 211 vs k σ:=by
 unfold Rw at h
 split at h
 ·rename_i s d
  obtain⟨⟨hx,hd⟩,h⟩:=h
  refine ag.cj (av (Go.Ev.Clean.str _) (av (Go.Ev.Clean.int _ _) aM)) wk (F211.flat (live:=Ju) (call:=Mh) (n₀:=0) (σ:=Go.Ev.start) (fun h=>JE h) rfl (by kernel_rfl) ?_) h
  rw[Mi];unfold FE
  unfold ib iX
  have tail:d≠4→d≠1→((.i64:IntKind)=.i64∧aa (decide (fF s≠(0:Int))) (V.tuple [.agg [.int .i64 (0:Int),.int .i64 (0:Int),.int .u64 (0:Int),.str ([])],.int .i64 (fF s)]=.tuple [az.enc (if d=4 then⟨d,0,0,s⟩ else if d=1 then(if s=jJ then⟨d,1,0,[]⟩ else if s=iJ then⟨d,0,0,[]⟩ else kz) else if fF s=0 then⟨d,hP s,0,[]⟩ else kz),.int .i64 (if d=4 then 0 else if d=1 then(if s=jJ∨s=iJ then 0 else 7) else fF s)])
    (V.tuple [.agg [.int .i64 d,.int .i64 (hP s),.int .u64 (0:Int),.str ([])],.int .i64 (0:Int)]=.tuple [az.enc (if d=4 then⟨d,0,0,s⟩ else if d=1 then(if s=jJ then⟨d,1,0,[]⟩ else if s=iJ then⟨d,0,0,[]⟩ else kz) else if fF s=0 then⟨d,hP s,0,[]⟩ else kz),.int .i64 (if d=4 then 0 else if d=1 then(if s=jJ∨s=iJ then 0 else 7) else fF s)])):=fun h1 h2=>by
   refine⟨rfl,aq (fun h3=>rP ?_ ?_) fun h3=>rP ?_ ?_⟩
   ·rw[if_neg h1,if_neg h2,if_neg h3];rfl
   ·rw[if_neg h1,if_neg h2]
   ·rw[if_neg h1,if_neg h2,if_pos (Classical.not_not.mp h3)]
   ·rw[if_neg h1,if_neg h2];exact Classical.not_not.mp h3
  refine⟨rfl,aq (fun h1=>rP ?_ ?_) fun h1=>⟨rfl,aq (fun h2=>aq (fun h3=>rP ?_ ?_) fun h3=>⟨rfl,Ut h2 (aq (fun h4=>rP ?_ ?_) fun h4=>⟨rfl,Ut h2 (rP ?_ ?_)⟩)⟩) fun h2=>⟨rfl,Uu h2 ⟨rfl,Uu h2 (tail h1 h2)⟩⟩⟩⟩
  ·rw[if_pos h1]
  ·rw[if_pos h1]
  ·rw[if_neg h1,if_pos h2,if_pos (show s=jJ from h3)]
  ·rw[if_neg h1,if_pos h2,if_pos (.inl (show s=jJ from h3))]
  ·rw[if_neg h1,if_pos h2,if_neg (show ¬s=jJ from h3),if_pos (show s=iJ from h4)]
  ·rw[if_neg h1,if_pos h2,if_pos (.inr (show s=iJ from h4))]
  ·rw[if_neg h1,if_pos h2,if_neg (show ¬s=jJ from h3),if_neg (show ¬s=iJ from h4)];rfl
  ·rw[if_neg h1,if_pos h2,if_neg (fun c:s=jJ∨s=iJ=>c.elim h3 h4)]
 ·exact h.elim
theorem JF:∀ {f:FuncId} {vs:List V} {σ:St} {k:ah},Mj f vs σ k→ag Tryz.prog f vs k σ:=fun h=>aH Wb JE h
omit [Env] [aZ] in
theorem xK {v:az} (h:bp v=0):(0≤v.f0∧v.f0≤5)∧(v.f0=1→v.f1=0∨v.f1=1)∧v.f3.length≤64:=by
 refine⟨?_,?_,LS h⟩
 ·unfold bp at h
  split at h
  ·cases h
  ·omega
 ·intro h1
  unfold bp at h
  split at h
  ·cases h
  ·split at h
   ·cases h
   ·split at h
    ·cases h
    ·omega
omit [Env] [aZ] in
theorem FH {a b:Int}:jh a b=true↔((1≤a∧a≤5)∧(1≤b∧b≤5)∧¬(a=1∧b=4)∧¬(a=4∧b=1)∧¬(a=3∧b=5)∧¬(a=5∧b=3)):=decide_eq_true_iff
theorem Wc (h:Rx vs σ k):ag Tryz.prog 163 vs k σ:=by
 unfold Rx at h
 split at h
 ·rename_i a b c s d
  obtain⟨hv,h⟩:=h
  generalize hV:(⟨a,b,c,s⟩:az)=v at *
  rw[show(V.agg [.int .i64 a,.int .i64 b,.int .u64 c,.str s])=az.enc v by rw[←hV];rfl]
  refine ag.cj (av (az.aJ v) (av (Go.Ev.Clean.int _ _) aM)) wk (F163.flat (live:=Jv) (call:=Mj) (n₀:=0) (σ:=Go.Ev.start) (fun h=>JF h) rfl (by kernel_rfl) ?_) h
  rw[Bq]
  unfold j3 FB
  refine⟨hv.1,rfl,aq (fun h1=>rP ?_ ?_) fun h1=>?_⟩
  ·rw[if_pos (show bp v≠0 from h1)];rfl
  ·rw[if_pos (show bp v≠0 from h1)]
  ·replace h1:¬bp v≠0:=h1
   rw[if_neg h1,if_neg h1]
   obtain⟨k1,k2,k3⟩:=xK (Classical.not_not.mp h1)
   refine⟨rfl,aq (fun h2=>rP ?_ ?_) fun h2=>⟨rfl,aq (fun h3=>rP ?_ ?_) fun h3=>?_⟩⟩
   ·rw[if_pos (.inl h2)];rfl
   ·rw[if_pos (.inl h2)]
   ·rw[if_pos (.inr h3)];rfl
   ·rw[if_pos (.inr h3)]
   ·have hd:¬(d<1∨d>5):=by omega
    rw[if_neg hd,if_neg hd]
    refine⟨rfl,aq (fun h4=>rP ?_ ?_) fun h4=>⟨rfl,aq (fun h5=>rP ?_ ?_) fun h5=>?_⟩⟩
    ·rw[if_pos (.inl h4)]
    ·rw[if_pos (.inl h4)]
    ·rw[if_pos (.inr h5)]
    ·rw[if_pos (.inr h5)]
    ·have OX:¬(v.f0=0∨v.f0=d):=by omega
     rw[if_neg OX,if_neg OX]
     refine wg (fun h6=>rP ?_ ?_) fun h6=>?_
     ·rw[if_pos h6];rfl
     ·rw[if_pos h6]
     ·have hc:=FH.mp h6
      have OY:¬jh v.f0 d=false:=by rw[h6];decide
      rw[if_neg OY,if_neg OY]
      refine⟨rfl,aq (fun h7=>⟨⟨k2 h7,by omega⟩,?_⟩) fun h7=>⟨rfl,aq (fun h8=>⟨⟨hv.2,by omega⟩,?_⟩) fun h8=>⟨rfl,aq (fun h9=>⟨⟨hv.1,by omega⟩,?_⟩) fun h9=>⟨rfl,aq (fun mb=>⟨⟨k3,by omega⟩,?_⟩) fun mb=>⟨⟨k3,by omega⟩,?_⟩⟩⟩⟩⟩
      ·rw[if_pos h7,if_pos h7];rfl
      ·rw[if_neg h7,if_neg h7,if_pos h8,if_pos h8];rfl
      ·rw[if_neg h7,if_neg h7,if_neg h8,if_neg h8,if_pos h9,if_pos h9];rfl
      ·rw[if_neg h7,if_neg h7,if_neg h8,if_neg h8,if_neg h9,if_neg h9,if_pos mb,if_pos mb];rfl
      ·rw[if_neg h7,if_neg h7,if_neg h8,if_neg h8,if_neg h9,if_neg h9,if_neg mb,if_neg mb];rfl
 ·exact h.elim
theorem JG:∀ {f:FuncId} {vs:List V} {σ:St} {k:ah},Mk f vs σ k→ag Tryz.prog f vs k σ:=fun h=>aH Wc JF h
end
end Go.Proofs.YtbajncpfmemdgaaGreatDoor
end
section
namespace Go.Proofs.YtbajncpfmemdgaaGreatDoor
open Go Go.Ev Go.IntWalk Go.Ev.Flt
theorem F255:bl Tryz.prog 255 Tryz.f255:=.of (by kernel_rfl) (by kernel_rfl)
theorem F254:bl Tryz.prog 254 Tryz.f254:=.of (by kernel_rfl) (by kernel_rfl)
theorem F256:bl Tryz.prog 256 Tryz.f256:=.of (by kernel_rfl) (by kernel_rfl)
theorem F257:bl Tryz.prog 257 Tryz.f257:=.of (by kernel_rfl) (by kernel_rfl)
theorem F258:bl Tryz.prog 258 Tryz.f258:=.of (by kernel_rfl) (by kernel_rfl)
theorem F228:bl Tryz.prog 228 Tryz.f228:=.of (by kernel_rfl) (by kernel_rfl)
def tJ (e:Int) (v:az) (u:V):Prop:=(e=0∧u=Us v)∨(e≠0∧u=Jo e)
theorem oP {e:Int} {v:az} {a b c:Int} {s:List UInt8} (he:e=0) (hv:v=⟨a,b,c,s⟩):tJ e v (.func (.func 266) [] [.aU [.int .i64 a,.int .i64 b,.int .u64 c,.str s] 0]):=.inl ⟨he,by subst hv;rfl⟩
theorem FI {e:Int} {v:az} {x:Int} (h0:x≠0) (he:e=x):tJ e v (.func (.func 265) [] [.aU [.int .i64 x] 0]):=.inr ⟨by rw[he];exact h0,by rw[he];rfl⟩
theorem Zo {e e':Int} {v v':az} (he:e=e') (hv:v=v'):(e'=0→tJ e v (.func (.func 266) [] [.aU [.int .i64 v'.f0,.int .i64 v'.f1,.int .u64 v'.f2,.str v'.f3] 0]))∧(e'≠0→tJ e v (.func (.func 265) [] [.aU [.int .i64 e'] 0])):=by
 subst he;subst hv
 exact⟨fun h=>.inl ⟨h,rfl⟩,fun h=>.inr ⟨h,rfl⟩⟩
theorem OZ {e e':Int} {v v':az} (he:e=e') (hv:v=v') (hb:e≠0→v=kz):(e=0→V.tuple [.agg [.int .i64 v.f0,.int .i64 v.f1,.int .u64 v.f2,.str v.f3],.int .i64 (0:Int)]=.tuple [az.enc v',.int .i64 e'])∧
  (e≠0→V.tuple [.agg [.int .i64 (0:Int),.int .i64 (0:Int),.int .u64 (0:Int),.str ([])],.int .i64 e]=.tuple [az.enc v',.int .i64 e']):=by
 subst he;subst hv
 exact⟨fun h=>by rw[h];rfl,fun h=>by rw[hb h];rfl⟩
theorem Bt {x d:Int} (h:ft x d≠0):dq x d=kz:=by
 unfold ft at h;unfold dq
 split at h
 ·rename_i h1
  rw[if_pos h1]
  split at h
  ·exact(h rfl).elim
  ·rename_i h2;rw[if_neg h2]
 ·rename_i h1
  rw[if_neg h1]
  split at h
  ·rename_i h2
   rw[if_pos h2]
   split at h
   ·exact(h rfl).elim
   ·rename_i h3;rw[if_neg h3]
  ·exact(h rfl).elim
theorem FJ {x d:Int} (h:kV x d≠0):iK x d=kz:=by
 unfold kV at h;unfold iK
 split at h
 ·exact(h rfl).elim
 ·rename_i h1
  rw[if_neg h1]
  split at h
  ·rename_i h2;rw[if_pos h2];exact Bt h
  ·rename_i h2;rw[if_neg h2]
theorem CC {s:List UInt8} {d:Int} (h:jS s d≠0):gE s d=kz:=by
 unfold jS at h;unfold gE
 split at h
 ·rename_i h1
  rw[if_pos h1]
  split at h
  ·exact(h rfl).elim
  ·rename_i h2;rw[if_neg h2]
 ·rename_i h1
  rw[if_neg h1]
  split at h
  ·exact(h rfl).elim
  ·rename_i h2;rw[if_neg h2]
theorem FK {s:List UInt8} {d:Int} (h:iX s d≠0):ib s d=kz:=by
 unfold iX at h;unfold ib
 split at h
 ·exact(h rfl).elim
 ·rename_i h1
  rw[if_neg h1]
  split at h
  ·rename_i h2
   rw[if_pos h2]
   split at h
   ·exact(h rfl).elim
   ·rename_i h3;rw[if_neg (fun c=>h3 (.inl c)),if_neg (fun c=>h3 (.inr c))]
  ·rename_i h2;rw[if_neg h2,if_neg h]
def Zp (s:List UInt8) (d:Int):Nat→List SV→Prop
 | 0,ss=>∃i:Nat,i≤8∧ss=[.val (.int .i64 d),.val (.int .u64 (jj s i)),.row (len s) (dM s) 1,.val (.int .i64 ((8:Nat):Int)),.val (.int .i64 ((i:Nat):Int))]
 | _,_=>False
def ahh (s:List UInt8) (d:Int):Nat→List SV→Prop
 | 0,ss=>∃i:Nat,i≤2∧(0<i→s≠iJ)∧(1<i→s≠jJ)∧ss=[.val (.str s),.val (.int .i64 d),.val (.agg [.str [102,97,108,115,101],.str [116,114,117,101]]),.val (.int .i64 ((i:Nat):Int))]
 | _,_=>False
section
variable [Env] [aZ] {vs:List V} {σ:St} {k:ah}
omit [aZ] in
theorem ag.ahi {f:FuncId} {A:V→Prop} (hc:∀v∈vs,Go.Ev.Clean v) (hA:∀v,A v→Go.Ev.Clean v) (h:ag Tryz.prog f vs (fun v _=>A v) Go.Ev.start) (hk:∀v,A v→k v σ):ag Tryz.prog f vs k σ:=
 (ag.zB (Q:=A) hc (h.mono fun v _ hv=>⟨v,.clean (hA v hv),hv⟩)).mono fun v τ ⟨h1,h2⟩=>by subst h2;exact hk v h1
omit [aZ] in
theorem Mp {e:Int} {v:az}:∀u,tJ e v u→Go.Ev.Clean u:=fun u hu=>by
 rcases hu with ⟨_,rfl⟩ | ⟨_,rfl⟩
 ·exact Go.Ev.Clean.fn cJ (aC (Go.Ev.Clean.aU (az.clean v)) cJ)
 ·exact Go.Ev.Clean.fn cJ (aC (Go.Ev.Clean.aU (aC (Go.Ev.Clean.int _ _) cJ)) cJ)
omit [aZ] in
theorem sx {f:FuncId} {e:Int} {v:az} (hc:∀v∈vs,Go.Ev.Clean v) (h:ag Tryz.prog f vs (fun u _=>tJ e v u) Go.Ev.start) (hk:w6 e v σ k):ag Tryz.prog f vs k σ:=
 ag.ahi hc Mp h fun u hu=>by
  rcases hu with ⟨h,rfl⟩ | ⟨h,rfl⟩
  ·exact hk.1 h
  ·exact hk.2 h
theorem Wd (h:Ry vs σ k):ag Tryz.prog 255 vs k σ:=by
 unfold Ry at h
 split at h
 ·rename_i x d
  obtain⟨⟨hx,hd⟩,h⟩:=h
  refine sx (aC (Go.Ev.Clean.int _ _) (aC (Go.Ev.Clean.int _ _) cJ)) (F255.flat (live:=Jw) (call:=Mk) (n₀:=0) (σ:=Go.Ev.start) (fun h=>JG h) rfl (by kernel_rfl) ?_) h
  rw[ahb]
  unfold ft dq
  refine⟨rfl,aq (fun h1=>⟨rfl,aq (fun h2=>⟨rfl,aq (fun h3=>FI (by decide) ?_) fun h3=>oP ?_ ?_⟩) fun h2=>oP ?_ ?_⟩) fun h1=>⟨rfl,aq (fun h2=>⟨hx,wg (fun h3=>FI (by decide) ?_) fun h3=>oP ?_ ?_⟩) fun h2=>⟨rfl,aq (fun h3=>oP ?_ ?_) fun h3=>⟨rfl,aq (fun h4=>⟨hx,oP ?_ ?_⟩) fun h4=>oP ?_ ?_⟩⟩⟩⟩
  ·rw[if_pos h1,if_neg (by omega)]
  ·rw[if_pos h1,if_pos (by omega)]
  ·rw[if_pos h1,if_pos (by omega)]
  ·rw[if_pos h1,if_pos (by omega)]
  ·rw[if_pos h1,if_pos (by omega)]
  ·rw[if_neg h1,if_pos h2,if_neg (by rw[h3];decide)]
  ·rw[if_neg h1,if_pos h2,if_pos h3]
  ·rw[if_neg h1,if_pos h2,if_pos h3]
  ·rw[if_neg h1,if_neg h2]
  ·rw[if_neg h1,if_neg h2,if_pos h3]
  ·rw[if_neg h1,if_neg h2]
  ·rw[if_neg h1,if_neg h2,if_neg h3,if_pos h4]
  ·rw[if_neg h1,if_neg h2]
  ·rw[if_neg h1,if_neg h2,if_neg h3,if_neg h4]
 ·exact h.elim
theorem JH:∀ {f:FuncId} {vs:List V} {σ:St} {k:ah},FF f vs σ k→ag Tryz.prog f vs k σ:=fun h=>aH Wd JG h
theorem We (h:Rz vs σ k):ag Tryz.prog 254 vs k σ:=by
 unfold Rz at h
 split at h
 ·rename_i x d
  obtain⟨⟨hx,hd⟩,h⟩:=h
  refine sx (aC (Go.Ev.Clean.int _ _) (aC (Go.Ev.Clean.int _ _) cJ)) (F254.flat (live:=Br) (call:=FF) (n₀:=0) (σ:=Go.Ev.start) (fun h=>JH h) rfl (by kernel_rfl) ?_) h
  have e0:∀x:Int,(x=0∨x=1)→d≠5→(0:Int)=ft x d:=fun x hx h1=>by
   unfold ft
   rw[if_neg (by omega)]
   split
   ·rw[if_pos (Zn hx)]
   ·rfl
  have e1:∀x:Int,d≠5→iW x d=dq x d:=fun x h1=>by unfold iW;rw[if_neg h1]
  rcases hx with rfl | rfl
  ·rw[Zi]
   refine⟨rfl,aq (fun h1=>oP rfl ?_) fun h1=>⟨⟨⟨by decide,by decide⟩,by omega⟩,Zo (e0 0 (.inl rfl) h1) (e1 0 h1)⟩⟩
   unfold iW;rw[if_pos h1];rfl
  ·rw[Zj]
   refine⟨rfl,aq (fun h1=>oP rfl ?_) fun h1=>⟨⟨⟨by decide,by decide⟩,by omega⟩,Zo (e0 1 (.inr rfl) h1) (e1 1 h1)⟩⟩
   unfold iW;rw[if_pos h1];rfl
 ·exact h.elim
theorem JI:∀ {f:FuncId} {vs:List V} {σ:St} {k:ah},Ml f vs σ k→ag Tryz.prog f vs k σ:=fun h=>aH We JH h
theorem Wf (h:RA vs σ k):ag Tryz.prog 256 vs k σ:=by
 unfold RA at h
 split at h
 ·rename_i x d
  obtain⟨⟨hx,hd⟩,h⟩:=h
  refine sx (aC (Go.Ev.Clean.int _ _) (aC (Go.Ev.Clean.int _ _) cJ)) (F256.flat (live:=Jx) (call:=Ml) (n₀:=0) (σ:=Go.Ev.start) (fun h=>JI h) rfl (by kernel_rfl) ?_) h
  rw[ahc]
  unfold kV iK
  refine⟨rfl,aq (fun h1=>oP ?_ ?_) fun h1=>⟨hx,wg (fun h3=>FI (by decide) ?_) fun h3=>⟨⟨OU x,by omega⟩,Zo ?_ ?_⟩⟩⟩
  ·rw[if_pos h1]
  ·rw[if_pos h1]
  ·rw[if_neg h1,if_neg (by rw[h3];decide)]
  ·rw[if_neg h1,if_pos h3]
  ·rw[if_neg h1,if_pos h3]
 ·exact h.elim
theorem JJ:∀ {f:FuncId} {vs:List V} {σ:St} {k:ah},FG f vs σ k→ag Tryz.prog f vs k σ:=fun h=>aH Wf JI h
theorem Wg (h:RC vs σ k):ag Tryz.prog 257 vs k σ:=by
 unfold RC at h
 split at h
 ·rename_i s d
  obtain⟨⟨hx,hd⟩,h⟩:=h
  refine sx (aC (Go.Ev.Clean.str _) (aC (Go.Ev.Clean.int _ _) cJ)) (F257.cf (live:=Bs) (call:=FG) (n₀:=0) (σ:=Go.Ev.start) (fun h=>JJ h) rfl 1 (by kernel_rfl) Nat.lt_wfRel.wf (fun _ ss=>8-cb ss) (fun j ss=>(d≠5∧s.length=8)∧Zp s d j ss) ?_ ?_ ?_) h
  ·intro k ss hI
   cases k with
   | zero=>obtain⟨_,i,_,rfl⟩:=hI;exact aG (aG (OM (aG (aG bG))))
   | succ k=>exact hI.2.elim
  ·rw[Mm];unfold RB;rw[hL]
   unfold gE jS
   have fin:d≠5→s.length=8→(d≠5∧s.length=8)∧Zp s d 0 [.val (.int .i64 d),.val (.int .u64 (0:Int)),.row s.length (dM s) 1,.val (.int .i64 ((s.length:Nat):Int)),.val (.int .i64 (0:Int))]:=fun h1 h2=>⟨⟨h1,h2⟩,0,by decide,by rw[hL,h2];rfl⟩
   have no:d≠5→s.length≠8→tJ (if d=5 then(if dZ s.length s=true then 0 else 7) else if s.length=8 then 0 else 6) (if d=5 then(if dZ s.length s=true then⟨d,0,0,s⟩ else kz) else if s.length=8 then(if d=3 then⟨d,0,fQ (jj s 8),[]⟩ else⟨d,IntKind.i64.wrap (jj s 8),0,[]⟩) else kz) (.func (.func 265) [] [.aU [.int .i64 (6:Int)] 0]):=fun h1 h2=>FI (by decide) (by rw[if_neg h1,if_neg h2])
   repeat' first
    | exact fin (by omega) (by omega)
    | exact no (by omega) (by omega)
    | exact hx
    | omega
    | refine⟨rfl,aq (fun _=>?_) (fun _=>?_)⟩
    | refine wg (fun _=>?_) (fun _=>?_)
    | exact FI (by decide) (by rw[if_pos (by omega),if_neg (by simp only[*];decide)])
    | exact oP (by rw[if_pos (by omega),if_pos (by assumption)]) (by rw[if_pos (by omega),if_pos (by assumption)])
    | exact⟨rfl,rfl⟩
    | refine⟨?_,?_⟩
  ·intro k hk ss hI
   obtain rfl:k=0:=by omega
   obtain⟨⟨O0,h8⟩,i,hi,rfl⟩:=hI
   rw[ahd,hL]
   refine⟨rfl,aq (fun h1=>⟨⟨by omega,by omega⟩,by omega,by decide,⟨rfl,rfl⟩,⟨⟨O0,h8⟩,i+1,by omega,?_⟩,?_⟩) fun h1=>?_⟩
   ·rw[dJ,wh (sw i).1,i64_in ((i:Int)+1) (by omega),hL];rfl
   ·show 8-(IntKind.i64.wrap (((i:Nat):Int)+1)).toNat<8-(((i:Nat):Int)).toNat
    rw[i64_in ((i:Int)+1) (by omega)];omega
   ·obtain rfl:i=8:=by omega
    unfold gE jS
    refine⟨rfl,aq (fun h3=>⟨sw 8,oP ?_ ?_⟩) fun h3=>oP ?_ ?_⟩
    ·rw[if_neg O0,if_pos h8]
    ·rw[if_neg O0,if_pos h8,if_pos h3]
    ·rw[if_neg O0,if_pos h8]
    ·rw[if_neg O0,if_pos h8,if_neg h3]
 ·exact h.elim
theorem JK:∀ {f:FuncId} {vs:List V} {σ:St} {k:ah},yl f vs σ k→ag Tryz.prog f vs k σ:=fun h=>aH Wg JJ h
theorem Wi (h:RD vs σ k):ag Tryz.prog 258 vs k σ:=by
 unfold RD at h
 split at h
 ·rename_i s d
  obtain⟨⟨hx,hd⟩,h⟩:=h
  refine sx (aC (Go.Ev.Clean.str _) (aC (Go.Ev.Clean.int _ _) cJ)) (F258.cf (live:=sv) (call:=yl) (n₀:=0) (σ:=Go.Ev.start) (fun h=>JK h) rfl 1 (by kernel_rfl) Nat.lt_wfRel.wf (fun _ ss=>8-cb ss) (fun j ss=>d=1∧ahh s d j ss) ?_ ?_ ?_) h
  ·intro k ss hI
   cases k with
   | zero=>obtain⟨_,i,_,_,_,rfl⟩:=hI;exact gD (aG (aN (Go.Ev.Clean.agg (aC (Go.Ev.Clean.str _) (aC (Go.Ev.Clean.str _) cJ))) (aG bG)))
   | succ k=>exact hI.2.elim
  ·rw[ahe]
   refine⟨rfl,aq (fun h1=>oP ?_ ?_) fun h1=>⟨rfl,aq (fun h2=>⟨h2,0,by decide,fun h=>absurd h (by decide),fun h=>absurd h (by decide),rfl⟩) fun h2=>⟨rfl,aq (fun h3=>FI h3 ?_) fun h3=>oP ?_ ?_⟩⟩⟩
   ·unfold iX;rw[if_pos h1]
   ·unfold ib;rw[if_pos h1]
   ·unfold iX;rw[if_neg h1,if_neg h2]
   ·unfold iX;rw[if_neg h1,if_neg h2];exact Classical.not_not.mp h3
   ·unfold ib;rw[if_neg h1,if_neg h2,if_pos (Classical.not_not.mp h3)]
  ·intro k hk ss hI
   obtain rfl:k=0:=by omega
   obtain⟨h1,i,hi,hf,ht,rfl⟩:=hI
   have h4:¬d=4:=by omega
   match i,hi,hf,ht with
   | 0,_,hf,ht=>
    refine(Zk _ _ s d).mpr ⟨rfl,aq (fun h2=>oP ?_ ?_) fun h2=>⟨⟨h1,1,by decide,fun _ c=>h2 c.symm,fun c=>absurd c (by decide),rfl⟩,(by show(8-1:Nat)<8-0;decide)⟩⟩
    ·unfold iX;rw[if_neg h4,if_pos h1,if_pos (.inr h2.symm)]
    ·unfold ib;rw[if_neg h4,if_pos h1,if_neg (by rw[←h2];decide),if_pos (show s=iJ from h2.symm)]
   | 1,_,hf,ht=>
    refine(Zl _ _ s d).mpr ⟨rfl,aq (fun h2=>oP ?_ ?_) fun h2=>⟨⟨h1,2,by decide,fun _=>hf (by decide),fun _ c=>h2 c.symm,rfl⟩,(by show(8-2:Nat)<8-1;decide)⟩⟩
    ·unfold iX;rw[if_neg h4,if_pos h1,if_pos (.inl h2.symm)]
    ·unfold ib;rw[if_neg h4,if_pos h1,if_pos (show s=jJ from h2.symm)]
   | 2,_,hf,ht=>
    refine(Zm _ _ s d).mpr ⟨rfl,FI (by decide) ?_⟩
    unfold iX;rw[if_neg h4,if_pos h1,if_neg (fun c:s=jJ∨s=iJ=>c.elim (ht (by decide)) (hf (by decide)))]
   | n+3,hi,_,_=>omega
 ·exact h.elim
theorem JL:∀ {f:FuncId} {vs:List V} {σ:St} {k:ah},Mn f vs σ k→ag Tryz.prog f vs k σ:=fun h=>aH Wi JK h
theorem Wj (h:RE vs σ k):ag Tryz.prog 228 vs k σ:=by
 unfold RE at h
 split at h
 ·rename_i a b c s d
  obtain⟨hv,h⟩:=h
  generalize hV:(⟨a,b,c,s⟩:az)=v at *
  rw[show(V.agg [.int .i64 a,.int .i64 b,.int .u64 c,.str s])=az.enc v by rw[←hV];rfl]
  refine ag.cj (av (az.aJ v) (av (Go.Ev.Clean.int _ _) aM)) wk (F228.flat (live:=Jy) (call:=Mn) (n₀:=0) (σ:=Go.Ev.start) (fun h=>JL h) rfl (by kernel_rfl) ?_) h
  rw[ahf]
  unfold j3 FB
  refine⟨hv.1,rfl,aq (fun h1=>rP ?_ ?_) fun h1=>?_⟩
  ·rw[if_pos (show bp v≠0 from h1)];rfl
  ·rw[if_pos (show bp v≠0 from h1)]
  ·replace h1:¬bp v≠0:=h1
   rw[if_neg h1,if_neg h1]
   obtain⟨k1,k2,k3⟩:=xK (Classical.not_not.mp h1)
   refine⟨rfl,aq (fun h2=>rP ?_ ?_) fun h2=>⟨rfl,aq (fun h3=>rP ?_ ?_) fun h3=>?_⟩⟩
   ·rw[if_pos (.inl h2)];rfl
   ·rw[if_pos (.inl h2)]
   ·rw[if_pos (.inr h3)];rfl
   ·rw[if_pos (.inr h3)]
   ·have hd:¬(d<1∨d>5):=by omega
    rw[if_neg hd,if_neg hd]
    refine⟨rfl,aq (fun h4=>rP ?_ ?_) fun h4=>⟨rfl,aq (fun h5=>rP ?_ ?_) fun h5=>?_⟩⟩
    ·rw[if_pos (.inl h4)]
    ·rw[if_pos (.inl h4)]
    ·rw[if_pos (.inr h5)]
    ·rw[if_pos (.inr h5)]
    ·have OX:¬(v.f0=0∨v.f0=d):=by omega
     rw[if_neg OX,if_neg OX]
     refine wg (fun h6=>rP ?_ ?_) fun h6=>?_
     ·rw[if_pos h6];rfl
     ·rw[if_pos h6]
     ·have hc:=FH.mp h6
      have OY:¬jh v.f0 d=false:=by rw[h6];decide
      rw[if_neg OY,if_neg OY]
      refine⟨rfl,aq (fun h7=>⟨⟨k2 h7,by omega⟩,?_⟩) fun h7=>⟨rfl,aq (fun h8=>⟨⟨hv.2,by omega⟩,?_⟩) fun h8=>⟨rfl,aq (fun h9=>⟨⟨hv.1,by omega⟩,?_⟩) fun h9=>⟨rfl,aq (fun mb=>⟨⟨k3,by omega⟩,?_⟩) fun mb=>⟨⟨k3,by omega⟩,?_⟩⟩⟩⟩⟩
      ·rw[if_pos h7,if_pos h7];exact OZ rfl rfl fun h=>(h rfl).elim
      ·rw[if_neg h7,if_neg h7,if_pos h8,if_pos h8];exact OZ rfl rfl Bt
      ·rw[if_neg h7,if_neg h7,if_neg h8,if_neg h8,if_pos h9,if_pos h9];exact OZ rfl rfl FJ
      ·rw[if_neg h7,if_neg h7,if_neg h8,if_neg h8,if_neg h9,if_neg h9,if_pos mb,if_pos mb];exact OZ rfl rfl CC
      ·rw[if_neg h7,if_neg h7,if_neg h8,if_neg h8,if_neg h9,if_neg h9,if_neg mb,if_neg mb];exact OZ rfl rfl FK
 ·exact h.elim
theorem JM:∀ {f:FuncId} {vs:List V} {σ:St} {k:ah},Mo f vs σ k→ag Tryz.prog f vs k σ:=fun h=>aH Wj JL h
end
end Go.Proofs.YtbajncpfmemdgaaGreatDoor
end
section
namespace Go.Proofs.YtbajncpfmemdgaaGreatDoor
open Go Go.Ev
noncomputable def zQ (q:Nat→List UInt8):Nat→Bool
 | 0=>true
 | n+1=>zQ q n&&(decide (n=0)|| !(Op.bytesLess (q n) (q (n-1))||q n==q (n-1)))
noncomputable def cG (l:List af):Int:=
 if l.length>16 then 2 else if dC (fun i=>bR (l.getD i default)) l.length≠0 then dC (fun i=>bR (l.getD i default)) l.length
 else if zQ (fun i=>(l.getD i default).f0) l.length=true then 0 else 12
noncomputable def aS (l:List af) (s:List UInt8):Int:=ct s (fun i=>(l.getD i default).f0) l.length
def O1:Nat→List Nat:=(fun _=>[])
theorem e83 [Env] (A:Nat→List SV→Prop) (Q:V→Prop) (e:af) (s:List UInt8):WE Tryz.prog 83 Tryz.f83 Mo 0 O1 A (fun v _=>Q v) [af.enc e,.aU [.str s] 0] Go.Ev.start=
  (aa (decide (e.f0=s)) (Q (.bool true)) (Q (.bool false))):=by kernel_rfl
def W83 [Env] (vs:List V) (σ:St) (k:ah):Prop:=
 ∃(e:af) (s:List UInt8),vs=[af.enc e,.aU [.str s] 0]∧k (.bool (decide (e.f0=s))) σ
def FL [Env]:=kS 83 W83 Mo
def FM:Nat→List Nat:=(fun i=>match i with | 0=>[0,1,7,8] | _=>[])
theorem e82 [Env] (A:Nat→List SV→Prop) (Q:V→Prop) (l:List af) (s:List UInt8):WE Tryz.prog 82 Tryz.f82 FL 0 FM A (fun v _=>Q v) [ae af.enc 3 l,.func (.func 83) [] [.aU [.str s] 0]] Go.Ev.start=
  (A 0 [.val (ae af.enc 3 l),.val (.func (.func 83) [] [.aU [.str s] 0]),.val (.int .i64 (((l.length:Nat):Int))),.val (.int .i64 (0:Int))]):=by kernel_rfl
theorem r82 [Env] (A:Nat→List SV→Prop) (Q:V→Prop) (l:List af) (s:List UInt8) (m i:Int):WL Tryz.prog 82 Tryz.f82 FL 0 FM A (fun v _=>Q v) 0 [.val (ae af.enc 3 l),.val (.func (.func 83) [] [.aU [.str s] 0]),.val (.int .i64 m),.val (.int .i64 i)]=
  (((.i64:IntKind)=.i64∧aa (decide (i<m)) (((0≤i∧i<((l.length:Nat):Int))∧(∃(q24:af) (s25:List UInt8),[af.enc (l.getD i.toNat default),.aU [.str s] 0]=[af.enc q24,.aU [.str s25] 0]∧aa ((decide (q24.f0=s25))) (Q (.int .i64 i)) (A 0 [.val (ae af.enc 3 l),.val (.func (.func 83) [] [.aU [.str s] 0]),.val (.int .i64 m),.val (.int .i64 (IntKind.i64.wrap (i+(1:Int))))])))) (Q (.int .i64 (-1:Int))))):=by kernel_rfl
def W82 [Env] (vs:List V) (σ:St) (k:ah):Prop:=
 ∃(l:List af) (s:List UInt8),bH σ vs [ae af.enc 3 l,.func (.func 83) [] [.aU [.str s] 0]]∧l.length≤1000000∧k (.int .i64 (aS l s)) σ
def Mq [Env]:=kS 82 W82 FL
def O2:Nat→List Nat:=(fun _=>[])
theorem e40 [Env] (A:Nat→List SV→Prop) (Q:V→Prop) (l:List af) (s:List UInt8):WE Tryz.prog 40 Tryz.f40 Mq 0 O2 A (fun v _=>Q v) [ae af.enc 3 l,.str s] Go.Ev.start=
  ((∃(Zq:List af) (s27:List UInt8),bH ⟨(St.new Go.Ev.start 0 (.cells 1 [] (ai [.str s] .leaf 0) true false)).heap,1⟩ [ae af.enc 3 l,.func (.func 83) [] [.ptr 0 0]] [ae af.enc 3 Zq,.func (.func 83) [] [.aU [.str s27] 0]]∧Zq.length≤1000000∧Q (.int .i64 (aS Zq s27)))):=by kernel_rfl
def W40 [Env] (vs:List V) (σ:St) (k:ah):Prop:=
 ∃(l:List af) (s:List UInt8),vs=[ae af.enc 3 l,.str s]∧l.length≤1000000∧k (.int .i64 (aS l s)) σ
def FN [Env]:=kS 40 W40 Mq
def FO:Nat→List Nat:=(fun i=>match i with | 0=>[0,1,5] | _=>[])
theorem e41 [Env] (A:Nat→List SV→Prop) (Q:V→Prop) (l:List af) (s:List UInt8):WE Tryz.prog 41 Tryz.f41 FN 0 FO A (fun v _=>Q v) [ae af.enc 3 l,.str s] Go.Ev.start=
  (A 0 [.val (ae af.enc 3 l),.val (.str s),.val (.int .i64 (0:Int))]):=by kernel_rfl
theorem r41 [Env] (A:Nat→List SV→Prop) (Q:V→Prop) (l:List af) (s:List UInt8) (i:Int):WL Tryz.prog 41 Tryz.f41 FN 0 FO A (fun v _=>Q v) 0 [.val (ae af.enc 3 l),.val (.str s),.val (.int .i64 i)]=
  (((.i64:IntKind)=.i64∧aa (decide (i<(((l.length:Nat):Int)))) (((0≤i∧i<((l.length:Nat):Int))∧aa (decide ((l.getD i.toNat default).f0=s)) (Q (.int .i64 i)) (A 0 [.val (ae af.enc 3 l),.val (.str s),.val (.int .i64 (IntKind.i64.wrap (i+(1:Int))))]))) (Q (.int .i64 (-1:Int))))):=by kernel_rfl
def W41 [Env] (vs:List V) (σ:St) (k:ah):Prop:=
 ∃(l:List af) (s:List UInt8),vs=[ae af.enc 3 l,.str s]∧l.length≤1000000∧k (.int .i64 (aS l s)) σ
def Bu [Env]:=kS 41 W41 FN
def zR:Nat→List Nat:=(fun i=>match i with | 0=>[0,10,11,12] | 1=>[0,23,24] | _=>[])
theorem Uv [Env] (A:Nat→List SV→Prop) (Q:V→Prop) (l:List af):WE Tryz.prog 38 Tryz.f38 Bu 0 zR A (fun v _=>Q v) [ae af.enc 3 l] Go.Ev.start=
  (((.i64:IntKind)=.i64∧aa (decide ((((l.length:Nat):Int))>(16:Int))) (Q (.int .i64 (2:Int))) (A 0 [.val (ae af.enc 3 l),.val (ae af.enc 3 l),.val (.int .i64 (((l.length:Nat):Int))),.val (.int .i64 (0:Int))]))):=by kernel_rfl
theorem ahj [Env] (A:Nat→List SV→Prop) (Q:V→Prop) (l:List af) (m i:Int):WL Tryz.prog 38 Tryz.f38 Bu 0 zR A (fun v _=>Q v) 0 [.val (ae af.enc 3 l),.val (ae af.enc 3 l),.val (.int .i64 m),.val (.int .i64 i)]=
  (((.i64:IntKind)=.i64∧aa (decide (i<m)) (((0≤i∧i<((l.length:Nat):Int))∧(∃Uw:af,[.agg [.str ((l.getD i.toNat default).f0),.int .i64 ((l.getD i.toNat default).f1),ae aj.enc 7 ((l.getD i.toNat default).f2)]]=[af.enc Uw]∧ga Uw∧((.i64:IntKind)=.i64∧aa (decide ((bR Uw)≠(0:Int))) (Q (.int .i64 (bR Uw))) (A 0 [.val (ae af.enc 3 l),.val (ae af.enc 3 l),.val (.int .i64 m),.val (.int .i64 (IntKind.i64.wrap (i+(1:Int))))]))))) (A 1 [.val (ae af.enc 3 l),.val (.int .i64 (((l.length:Nat):Int))),.val (.int .i64 (0:Int))]))):=by kernel_rfl
theorem ahk [Env] (A:Nat→List SV→Prop) (Q:V→Prop) (l:List af) (m i:Int):WL Tryz.prog 38 Tryz.f38 Bu 0 zR A (fun v _=>Q v) 1 [.val (ae af.enc 3 l),.val (.int .i64 m),.val (.int .i64 i)]=
  (((.i64:IntKind)=.i64∧aa (decide (i<m)) (((.i64:IntKind)=.i64∧aa (decide (i>(0:Int))) (((0≤i∧i<((l.length:Nat):Int))∧((0≤(IntKind.i64.wrap (i-(1:Int)))∧(IntKind.i64.wrap (i-(1:Int)))<((l.length:Nat):Int))∧aa ((Op.bytesLess ((l.getD i.toNat default).f0) ((l.getD (IntKind.i64.wrap (i-(1:Int))).toNat default).f0)||((l.getD i.toNat default).f0)==((l.getD (IntKind.i64.wrap (i-(1:Int))).toNat default).f0))) (Q (.int .i64 (12:Int))) (A 1 [.val (ae af.enc 3 l),.val (.int .i64 m),.val (.int .i64 (IntKind.i64.wrap (i+(1:Int))))])))) (A 1 [.val (ae af.enc 3 l),.val (.int .i64 m),.val (.int .i64 (IntKind.i64.wrap (i+(1:Int))))]))) (Q (.int .i64 (0:Int))))):=by kernel_rfl
def W38 [Env] (vs:List V) (σ:St) (k:ah):Prop:=
 ∃l:List af,vs=[ae af.enc 3 l]∧(∀t∈l,ga t)∧k (.int .i64 (cG l)) σ
def Bv [Env]:=kS 38 W38 Bu
def zS:Nat→List Nat:=(fun i=>match i with | 0=>[0,3] | 1=>[0,5] | _=>[])
theorem e39 [Env] (A:Nat→List SV→Prop) (Q:V→Prop) (l:List af):WE Tryz.prog 39 Tryz.f39 Bv 0 zS A (fun v _=>Q v) [ae af.enc 3 l] Go.Ev.start=
  (((.i64:IntKind)=.i64∧aa (decide ((((l.length:Nat):Int))>(16:Int))) (Q (.int .i64 (2:Int))) (A 0 [.val (ae af.enc 3 l),.val (.int .i64 (0:Int))]))):=by kernel_rfl
theorem ahl [Env] (A:Nat→List SV→Prop) (Q:V→Prop) (l:List af) (i:Int):WL Tryz.prog 39 Tryz.f39 Bv 0 zS A (fun v _=>Q v) 0 [.val (ae af.enc 3 l),.val (.int .i64 i)]=
  (((.i64:IntKind)=.i64∧aa (decide (i<(((l.length:Nat):Int)))) (((0≤i∧i<((l.length:Nat):Int))∧(∃Ux:af,[af.enc (l.getD i.toNat default)]=[af.enc Ux]∧ga Ux∧((.i64:IntKind)=.i64∧aa (decide ((bR Ux)≠(0:Int))) (Q (.int .i64 (bR Ux))) (A 0 [.val (ae af.enc 3 l),.val (.int .i64 (IntKind.i64.wrap (i+(1:Int))))]))))) (A 1 [.val (ae af.enc 3 l),.val (.int .i64 (1:Int))]))):=by kernel_rfl
theorem ahm [Env] (A:Nat→List SV→Prop) (Q:V→Prop) (l:List af) (i:Int):WL Tryz.prog 39 Tryz.f39 Bv 0 zS A (fun v _=>Q v) 1 [.val (ae af.enc 3 l),.val (.int .i64 i)]=
  (((.i64:IntKind)=.i64∧aa (decide (i<(((l.length:Nat):Int)))) (((0≤i∧i<((l.length:Nat):Int))∧((0≤(IntKind.i64.wrap (i-(1:Int)))∧(IntKind.i64.wrap (i-(1:Int)))<((l.length:Nat):Int))∧aa ((Op.bytesLess ((l.getD i.toNat default).f0) ((l.getD (IntKind.i64.wrap (i-(1:Int))).toNat default).f0)||((l.getD i.toNat default).f0)==((l.getD (IntKind.i64.wrap (i-(1:Int))).toNat default).f0))) (Q (.int .i64 (12:Int))) (A 1 [.val (ae af.enc 3 l),.val (.int .i64 (IntKind.i64.wrap (i+(1:Int))))])))) (Q (.int .i64 (0:Int))))):=by kernel_rfl
def W39 [Env] (vs:List V) (σ:St) (k:ah):Prop:=
 ∃l:List af,vs=[ae af.enc 3 l]∧(∀t∈l,ga t)∧k (.int .i64 (cG l)) σ
def Mr [Env]:=kS 39 W39 Bv
end Go.Proofs.YtbajncpfmemdgaaGreatDoor
end
