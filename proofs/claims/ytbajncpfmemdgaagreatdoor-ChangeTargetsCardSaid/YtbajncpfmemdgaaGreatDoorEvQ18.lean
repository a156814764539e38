/- Proved: parts of the way: BEq9, BEq10, BEq11, BC1, BCD, BCE. -/
import Derived.Test.YtbajncpfmemdgaaGreatDoorEvQ17
section
namespace Go.Proofs.YtbajncpfmemdgaaGreatDoor
open Go Go.Ev
def jh (a b:Int):Bool:=decide ((1≤a∧a≤5)∧(1≤b∧b≤5)∧¬(a=1∧b=4)∧¬(a=4∧b=1)∧¬(a=3∧b=5)∧¬(a=5∧b=3))
def gb:Nat→Nat→List UInt8
 | 0,m=>[byteOf ((48+m:Nat):Int)]
 | f+1,m=>if m<10 then [byteOf ((48+m:Nat):Int)] else gb f (m/10)++[byteOf ((48+m%10:Nat):Int)]
def gp (n:Int):List UInt8:=(if n<0 then [byteOf 45] else [])++gb 20 n.natAbs
def dR (n:Int):Prop:= -9223372036854775808≤n∧n≤9223372036854775807
def Bd (s:List UInt8):Prop:=∃n,dR n∧gp n=s
noncomputable def hP (s:List UInt8):Int:=@dite _ (Bd s) (Classical.propDecidable _) (fun h=>Classical.choose h) fun _=>0
noncomputable def fF (s:List UInt8):Int:=@ite _ (Bd s) (Classical.propDecidable _) 0 7
def IP:Nat→List Nat:=(fun _=>[])
abbrev Fk [Env] (A:Nat→List SV→Prop) (Q:V→Prop) (a b:Int):Prop:=
 ((.i64:IntKind)=.i64∧aa (decide (a=(3:Int))) (((.i64:IntKind)=.i64∧aa (decide (b=(5:Int))) (Q (.bool false)) (((.i64:IntKind)=.i64∧aa (decide (a=(5:Int))) (((.i64:IntKind)=.i64∧aa (decide (b=(3:Int))) (Q (.bool false)) (Q (.bool true)))) (Q (.bool true)))))) (((.i64:IntKind)=.i64∧aa (decide (a=(5:Int))) (((.i64:IntKind)=.i64∧aa (decide (b=(3:Int))) (Q (.bool false)) (Q (.bool true)))) (Q (.bool true)))))
theorem agF [Env] (A:Nat→List SV→Prop) (Q:V→Prop) (a b:Int):WE Tryz.prog 253 Tryz.f253 LV 0 IP A (fun v _=>Q v) [.int .i64 a,.int .i64 b] Go.Ev.start=
  (((.i64:IntKind)=.i64∧aa (decide (a<(1:Int))) (Q (.bool false)) (((.i64:IntKind)=.i64∧aa (decide (a>(5:Int))) (Q (.bool false)) (((.i64:IntKind)=.i64∧aa (decide (b<(1:Int))) (Q (.bool false)) (((.i64:IntKind)=.i64∧aa (decide (b>(5:Int))) (Q (.bool false)) (((.i64:IntKind)=.i64∧aa (decide (a=(1:Int))) (((.i64:IntKind)=.i64∧aa (decide (b=(4:Int))) (Q (.bool false)) (((.i64:IntKind)=.i64∧aa (decide (a=(4:Int))) (((.i64:IntKind)=.i64∧aa (decide (b=(1:Int))) (Q (.bool false)) ((Fk A Q a b)))) ((Fk A Q a b)))))) (((.i64:IntKind)=.i64∧aa (decide (a=(4:Int))) (((.i64:IntKind)=.i64∧aa (decide (b=(1:Int))) (Q (.bool false)) ((Fk A Q a b)))) ((Fk A Q a b)))))))))))))):=by kernel_rfl
def Q0 [Env] (vs:List V) (σ:St) (k:ah):Prop:=
 match vs with
 | [.int .i64 a,.int .i64 b]=>k (.bool (jh a b)) σ
 | _=>False
def LW [Env]:=kS 253 Q0 LV
def IQ:Nat→List Nat:=(fun _=>[])
theorem agG [Env] (A:Nat→List SV→Prop) (Q:V→Prop) (a b:Int):WE Tryz.prog 162 Tryz.f162 LW 0 IQ A (fun v _=>Q v) [.int .i64 a,.int .i64 b] Go.Ev.start=
  (((.i64:IntKind)=.i64∧aa (decide (a<(1:Int))) (Q (.bool false)) (((.i64:IntKind)=.i64∧aa (decide (a>(5:Int))) (Q (.bool false)) (((.i64:IntKind)=.i64∧aa (decide (b<(1:Int))) (Q (.bool false)) (((.i64:IntKind)=.i64∧aa (decide (b>(5:Int))) (Q (.bool false)) (((.i64:IntKind)=.i64∧aa (decide (a=(1:Int))) (((.i64:IntKind)=.i64∧aa (decide (b≠(4:Int))) (Q (.bool true)) (Q (.bool false)))) (((.i64:IntKind)=.i64∧aa (decide (a=(3:Int))) (((.i64:IntKind)=.i64∧aa (decide (b≠(5:Int))) (Q (.bool true)) (Q (.bool false)))) (((.i64:IntKind)=.i64∧aa (decide (a=(4:Int))) (((.i64:IntKind)=.i64∧aa (decide (b≠(1:Int))) (Q (.bool true)) (Q (.bool false)))) (((.i64:IntKind)=.i64∧aa (decide (a=(5:Int))) (((.i64:IntKind)=.i64∧aa (decide (b≠(3:Int))) (Q (.bool true)) (Q (.bool false)))) (Q (.bool true)))))))))))))))))):=by kernel_rfl
def Q1 [Env] (vs:List V) (σ:St) (k:ah):Prop:=
 match vs with
 | [.int .i64 a,.int .i64 b]=>k (.bool (jh a b)) σ
 | _=>False
def LX [Env]:=kS 162 Q1 LW
def IS:Nat→List Nat:=(fun _=>[])
theorem agH [Env] (A:Nat→List SV→Prop) (Q:V→St→Prop) (e:Int):WE Tryz.prog 251 Tryz.f251 LX 0 IS A Q [.int .i64 e] Go.Ev.start=
  (Q (.func (.func 265) [] [.ptr 0 0]) ⟨(St.new Go.Ev.start 0 (.cells 1 [] (ai [.int .i64 e] .leaf 0) true false)).heap,1⟩):=by kernel_rfl
def Q2 [Env] (vs:List V) (σ:St) (k:ah):Prop:=
 match vs with
 | [.int .i64 e]=>k (.func (.func 265) [] [.aU [.int .i64 e] 0]) σ
 | _=>False
def LY [Env]:=kS 251 Q2 LX
def IT:Nat→List Nat:=(fun _=>[])
theorem agI [Env] (A:Nat→List SV→Prop) (Q:V→St→Prop) (e:az):WE Tryz.prog 252 Tryz.f252 LY 0 IT A Q [az.enc e] Go.Ev.start=
  (Q (.func (.func 266) [] [.ptr 0 0]) ⟨(St.new Go.Ev.start 0 (.cells 4 [] (ai [.int .i64 e.f0,.int .i64 e.f1,.int .u64 e.f2,.str e.f3] .leaf 0) true false)).heap,1⟩):=by kernel_rfl
def Q3 [Env] (vs:List V) (σ:St) (k:ah):Prop:=
 match vs with
 | [.agg [.int .i64 a,.int .i64 b,.int .u64 c,.str s]]=>k (.func (.func 266) [] [.aU [.int .i64 a,.int .i64 b,.int .u64 c,.str s] 0]) σ
 | _=>False
def LZ [Env]:=kS 252 Q3 LY
def IU:Nat→List Nat:=(fun _=>[])
theorem agJ [Env] (A:Nat→List SV→Prop) (Q:V→Prop) (e:Int):WE Tryz.prog 265 Tryz.f265 LZ 0 IU A (fun v _=>Q v) [.aU [.int .i64 e] 0] Go.Ev.start=
  (Q (.tuple [.agg [.int .i64 (0:Int),.int .i64 (0:Int),.int .u64 (0:Int),.str ([])],.int .i64 e])):=by kernel_rfl
def Q4 [Env] (vs:List V) (σ:St) (k:ah):Prop:=
 match vs with
 | [.aU [.int .i64 e] 0]=>k (.tuple [.agg [.int .i64 0,.int .i64 0,.int .u64 0,.str []],.int .i64 e]) σ
 | _=>False
def L0 [Env]:=kS 265 Q4 LZ
def IV:Nat→List Nat:=(fun _=>[])
theorem agK [Env] (A:Nat→List SV→Prop) (Q:V→Prop) (a b c:Int) (s:List UInt8):WE Tryz.prog 266 Tryz.f266 L0 0 IV A (fun v _=>Q v) [.aU [.int .i64 a,.int .i64 b,.int .u64 c,.str s] 0] Go.Ev.start=
  (Q (.tuple [.agg [.int .i64 a,.int .i64 b,.int .u64 c,.str s],.int .i64 (0:Int)])):=by kernel_rfl
def Q5 [Env] (vs:List V) (σ:St) (k:ah):Prop:=
 match vs with
 | [.aU [.int .i64 a,.int .i64 b,.int .u64 c,.str s] 0]=>k (.tuple [.agg [.int .i64 a,.int .i64 b,.int .u64 c,.str s],.int .i64 0]) σ
 | _=>False
def nB [Env]:=kS 266 Q5 L0
def ji:Nat→List Nat:=(fun i=>match i with | 0=>[0,3,5] | _=>[])
theorem agL [Env] (A:Nat→List SV→Prop) (Q:V→Prop) (x:Int):WE Tryz.prog 268 Tryz.f268 nB 0 ji A (fun v _=>Q v) [.int .u64 x] Go.Ev.start=
  (A 0 [.val (.int .u64 x),.box [.int .u8 (0:Int),.int .u8 (0:Int),.int .u8 (0:Int),.int .u8 (0:Int),.int .u8 (0:Int),.int .u8 (0:Int),.int .u8 (0:Int),.int .u8 (0:Int)],.val (.int .i64 (0:Int))]):=by kernel_rfl
theorem YU [Env] (A:Nat→List SV→Prop) (Q:V→Prop) (x:Int) (c:Nat→Int):WL Tryz.prog 268 Tryz.f268 nB 0 ji A (fun v _=>Q v) 0 [.val (.int .u64 x),.box [.int .u8 (0:Int),.int .u8 (0:Int),.int .u8 (0:Int),.int .u8 (0:Int),.int .u8 (0:Int),.int .u8 (0:Int),.int .u8 (0:Int),.int .u8 (0:Int)],.val (.int .i64 (0:Int))]=
  (((.i64:IntKind)=.i64∧(0≤(56:Int)∧A 0 [.val (.int .u64 x),.box [.int .u8 (IntKind.u8.wrap (x.fdiv (2^min (56:Int).toNat IntKind.u64.bits))),.int .u8 (0:Int),.int .u8 (0:Int),.int .u8 (0:Int),.int .u8 (0:Int),.int .u8 (0:Int),.int .u8 (0:Int),.int .u8 (0:Int)],.val (.int .i64 (1:Int))]))):=by kernel_rfl
theorem YV [Env] (A:Nat→List SV→Prop) (Q:V→Prop) (x:Int) (c:Nat→Int):WL Tryz.prog 268 Tryz.f268 nB 0 ji A (fun v _=>Q v) 0 [.val (.int .u64 x),.box [.int .u8 (c 0),.int .u8 (0:Int),.int .u8 (0:Int),.int .u8 (0:Int),.int .u8 (0:Int),.int .u8 (0:Int),.int .u8 (0:Int),.int .u8 (0:Int)],.val (.int .i64 (1:Int))]=
  (((.i64:IntKind)=.i64∧(0≤(48:Int)∧A 0 [.val (.int .u64 x),.box [.int .u8 (c 0),.int .u8 (IntKind.u8.wrap (x.fdiv (2^min (48:Int).toNat IntKind.u64.bits))),.int .u8 (0:Int),.int .u8 (0:Int),.int .u8 (0:Int),.int .u8 (0:Int),.int .u8 (0:Int),.int .u8 (0:Int)],.val (.int .i64 (2:Int))]))):=by kernel_rfl
theorem YW [Env] (A:Nat→List SV→Prop) (Q:V→Prop) (x:Int) (c:Nat→Int):WL Tryz.prog 268 Tryz.f268 nB 0 ji A (fun v _=>Q v) 0 [.val (.int .u64 x),.box [.int .u8 (c 0),.int .u8 (c 1),.int .u8 (0:Int),.int .u8 (0:Int),.int .u8 (0:Int),.int .u8 (0:Int),.int .u8 (0:Int),.int .u8 (0:Int)],.val (.int .i64 (2:Int))]=
  (((.i64:IntKind)=.i64∧(0≤(40:Int)∧A 0 [.val (.int .u64 x),.box [.int .u8 (c 0),.int .u8 (c 1),.int .u8 (IntKind.u8.wrap (x.fdiv (2^min (40:Int).toNat IntKind.u64.bits))),.int .u8 (0:Int),.int .u8 (0:Int),.int .u8 (0:Int),.int .u8 (0:Int),.int .u8 (0:Int)],.val (.int .i64 (3:Int))]))):=by kernel_rfl
theorem YX [Env] (A:Nat→List SV→Prop) (Q:V→Prop) (x:Int) (c:Nat→Int):WL Tryz.prog 268 Tryz.f268 nB 0 ji A (fun v _=>Q v) 0 [.val (.int .u64 x),.box [.int .u8 (c 0),.int .u8 (c 1),.int .u8 (c 2),.int .u8 (0:Int),.int .u8 (0:Int),.int .u8 (0:Int),.int .u8 (0:Int),.int .u8 (0:Int)],.val (.int .i64 (3:Int))]=
  (((.i64:IntKind)=.i64∧(0≤(32:Int)∧A 0 [.val (.int .u64 x),.box [.int .u8 (c 0),.int .u8 (c 1),.int .u8 (c 2),.int .u8 (IntKind.u8.wrap (x.fdiv (2^min (32:Int).toNat IntKind.u64.bits))),.int .u8 (0:Int),.int .u8 (0:Int),.int .u8 (0:Int),.int .u8 (0:Int)],.val (.int .i64 (4:Int))]))):=by kernel_rfl
theorem YY [Env] (A:Nat→List SV→Prop) (Q:V→Prop) (x:Int) (c:Nat→Int):WL Tryz.prog 268 Tryz.f268 nB 0 ji A (fun v _=>Q v) 0 [.val (.int .u64 x),.box [.int .u8 (c 0),.int .u8 (c 1),.int .u8 (c 2),.int .u8 (c 3),.int .u8 (0:Int),.int .u8 (0:Int),.int .u8 (0:Int),.int .u8 (0:Int)],.val (.int .i64 (4:Int))]=
  (((.i64:IntKind)=.i64∧(0≤(24:Int)∧A 0 [.val (.int .u64 x),.box [.int .u8 (c 0),.int .u8 (c 1),.int .u8 (c 2),.int .u8 (c 3),.int .u8 (IntKind.u8.wrap (x.fdiv (2^min (24:Int).toNat IntKind.u64.bits))),.int .u8 (0:Int),.int .u8 (0:Int),.int .u8 (0:Int)],.val (.int .i64 (5:Int))]))):=by kernel_rfl
theorem YZ [Env] (A:Nat→List SV→Prop) (Q:V→Prop) (x:Int) (c:Nat→Int):WL Tryz.prog 268 Tryz.f268 nB 0 ji A (fun v _=>Q v) 0 [.val (.int .u64 x),.box [.int .u8 (c 0),.int .u8 (c 1),.int .u8 (c 2),.int .u8 (c 3),.int .u8 (c 4),.int .u8 (0:Int),.int .u8 (0:Int),.int .u8 (0:Int)],.val (.int .i64 (5:Int))]=
  (((.i64:IntKind)=.i64∧(0≤(16:Int)∧A 0 [.val (.int .u64 x),.box [.int .u8 (c 0),.int .u8 (c 1),.int .u8 (c 2),.int .u8 (c 3),.int .u8 (c 4),.int .u8 (IntKind.u8.wrap (x.fdiv (2^min (16:Int).toNat IntKind.u64.bits))),.int .u8 (0:Int),.int .u8 (0:Int)],.val (.int .i64 (6:Int))]))):=by kernel_rfl
theorem Y0 [Env] (A:Nat→List SV→Prop) (Q:V→Prop) (x:Int) (c:Nat→Int):WL Tryz.prog 268 Tryz.f268 nB 0 ji A (fun v _=>Q v) 0 [.val (.int .u64 x),.box [.int .u8 (c 0),.int .u8 (c 1),.int .u8 (c 2),.int .u8 (c 3),.int .u8 (c 4),.int .u8 (c 5),.int .u8 (0:Int),.int .u8 (0:Int)],.val (.int .i64 (6:Int))]=
  (((.i64:IntKind)=.i64∧(0≤(8:Int)∧A 0 [.val (.int .u64 x),.box [.int .u8 (c 0),.int .u8 (c 1),.int .u8 (c 2),.int .u8 (c 3),.int .u8 (c 4),.int .u8 (c 5),.int .u8 (IntKind.u8.wrap (x.fdiv (2^min (8:Int).toNat IntKind.u64.bits))),.int .u8 (0:Int)],.val (.int .i64 (7:Int))]))):=by kernel_rfl
theorem Y1 [Env] (A:Nat→List SV→Prop) (Q:V→Prop) (x:Int) (c:Nat→Int):WL Tryz.prog 268 Tryz.f268 nB 0 ji A (fun v _=>Q v) 0 [.val (.int .u64 x),.box [.int .u8 (c 0),.int .u8 (c 1),.int .u8 (c 2),.int .u8 (c 3),.int .u8 (c 4),.int .u8 (c 5),.int .u8 (c 6),.int .u8 (0:Int)],.val (.int .i64 (7:Int))]=
  (((.i64:IntKind)=.i64∧(0≤(0:Int)∧A 0 [.val (.int .u64 x),.box [.int .u8 (c 0),.int .u8 (c 1),.int .u8 (c 2),.int .u8 (c 3),.int .u8 (c 4),.int .u8 (c 5),.int .u8 (c 6),.int .u8 (IntKind.u8.wrap (x.fdiv (2^min (0:Int).toNat IntKind.u64.bits)))],.val (.int .i64 (8:Int))]))):=by kernel_rfl
theorem Y2 [Env] (A:Nat→List SV→Prop) (Q:V→Prop) (x:Int) (c:Nat→Int):WL Tryz.prog 268 Tryz.f268 nB 0 ji A (fun v _=>Q v) 0 [.val (.int .u64 x),.box [.int .u8 (c 0),.int .u8 (c 1),.int .u8 (c 2),.int .u8 (c 3),.int .u8 (c 4),.int .u8 (c 5),.int .u8 (c 6),.int .u8 (c 7)],.val (.int .i64 (8:Int))]=
  (((.i64:IntKind)=.i64∧Q (.str ([UInt8.ofNat (c 0).toNat,UInt8.ofNat (c 1).toNat,UInt8.ofNat (c 2).toNat,UInt8.ofNat (c 3).toNat,UInt8.ofNat (c 4).toNat,UInt8.ofNat (c 5).toNat,UInt8.ofNat (c 6).toNat,UInt8.ofNat (c 7).toNat])))):=by kernel_rfl
def Q6 [Env] (vs:List V) (σ:St) (k:ah):Prop:=
 match vs with
 | [.int .u64 x]=>k (.str (lz x 8)) σ
 | _=>False
def Fl [Env]:=kS 268 Q6 nB
end Go.Proofs.YtbajncpfmemdgaaGreatDoor
end
section
namespace Go.Proofs.YtbajncpfmemdgaaGreatDoor
open Go Go.Ev
def lc (c:Nat→Int) (i:Nat):List UInt8:=((List.range 20).drop i).map fun j=>UInt8.ofNat (c j).toNat
def put (c:Nat→Int) (i:Nat) (x:Int):Nat→Int:=fun j=>if j=i then x else c j
def zf (i:Nat) (c:Nat→Int) (j:Nat):Int:=bif Nat.blt j i then 0 else c j
def Be (n m:Int) (c:Nat→Int) (i:Nat):List SV:=[.val (.int .i64 n),.val (.int .u64 m),.box ((List.range 20).map fun j=>.int .u8 (zf i c j)),.val (.int .i64 ((i:Nat):Int))]
def Y3 (A:Nat→List SV→Prop) (n m:Int) (c:Nat→Int) (i:Nat):Prop:=
 ((.u64:IntKind)=.u64∧(10:Int)≠0)∧(((.u64:IntKind)=.u64∧(10:Int)≠0)∧A 0 (Be n (IntKind.u64.wrap (m.tdiv 10)) (put c i (IntKind.u8.wrap (IntKind.u64.wrap (48+m.tmod 10)))) i))
def agM (A:Nat→List SV→Prop) (Q:V→Prop) (n m:Int) (c:Nat→Int) (i:Nat):Prop:=
 (.i64:IntKind)=.i64∧((.u64:IntKind)=.u64∧aa (decide (m>0)) (Y3 A n m c (i-1)) ((.i64:IntKind)=.i64∧aa (decide (n<0)) (Q (.str (UInt8.ofNat (45:Int).toNat::lc c i))) (Q (.str (lc c i)))))
def Bf:Nat→List Nat:=(fun i=>match i with | 0=>[0,3,4] | _=>[])
theorem agN [Env] (A:Nat→List SV→Prop) (Q:V→Prop) (n:Int):WE Tryz.prog 242 Tryz.f242 Fl 0 Bf A (fun v _=>Q v) [.int .i64 n] Go.Ev.start=
  (((.i64:IntKind)=.i64∧aa (decide (n<(0:Int))) (A 0 [.val (.int .i64 n),.val (.int .u64 (IntKind.u64.wrap ((0:Int)-(IntKind.u64.wrap n)))),.val (.str ([]))]) (A 0 [.val (.int .i64 n),.val (.int .u64 (IntKind.u64.wrap n)),.val (.str ([]))]))):=by kernel_rfl
theorem agO [Env] (A:Nat→List SV→Prop) (Q:V→Prop) (n m:Int) (s:List UInt8):WL Tryz.prog 242 Tryz.f242 Fl 0 Bf A (fun v _=>Q v) 0 [.val (.int .i64 n),.val (.int .u64 m),.val (.str s)]=
  (((.u64:IntKind)=.u64∧aa (decide (m≥(10:Int))) ((((.u64:IntKind)=.u64∧(10:Int)≠0)∧(([UInt8.ofNat (IntKind.u8.wrap (IntKind.u64.wrap ((48:Int)+(m.tmod (10:Int))))).toNat]).length+s.length≤9223372036854775807∧(((.u64:IntKind)=.u64∧(10:Int)≠0)∧A 0 [.val (.int .i64 n),.val (.int .u64 (IntKind.u64.wrap (m.tdiv (10:Int)))),.val (.str (([UInt8.ofNat (IntKind.u8.wrap (IntKind.u64.wrap ((48:Int)+(m.tmod (10:Int))))).toNat])++s))])))) ((([UInt8.ofNat (IntKind.u8.wrap (IntKind.u64.wrap ((48:Int)+m))).toNat]).length+s.length≤9223372036854775807∧((.i64:IntKind)=.i64∧aa (decide (n<(0:Int))) ((([45]).length+(([UInt8.ofNat (IntKind.u8.wrap (IntKind.u64.wrap ((48:Int)+m))).toNat])++s).length≤9223372036854775807∧Q (.str (([45])++(([UInt8.ofNat (IntKind.u8.wrap (IntKind.u64.wrap ((48:Int)+m))).toNat])++s))))) (Q (.str (([UInt8.ofNat (IntKind.u8.wrap (IntKind.u64.wrap ((48:Int)+m))).toNat])++s)))))))):=by kernel_rfl
def Q7 [Env] (vs:List V) (σ:St) (k:ah):Prop:=
 match vs with
 | [.int .i64 n]=>dR n∧k (.str (gp n)) σ
 | _=>False
def Bg [Env]:=kS 242 Q7 Fl
def w3:Nat→List Nat:=(fun i=>match i with | 0=>[0,3,4,5] | _=>[])
theorem agP [Env] (A:Nat→List SV→Prop) (Q:V→Prop) (n:Int):WE Tryz.prog 269 Tryz.f269 Bg 0 w3 A (fun v _=>Q v) [.int .i64 n] Go.Ev.start=
  (((.i64:IntKind)=.i64∧aa (decide (n<(0:Int))) (A 0 [.val (.int .i64 n),.val (.int .u64 (IntKind.u64.wrap ((0:Int)-(IntKind.u64.wrap n)))),.box [.int .u8 (0:Int),.int .u8 (0:Int),.int .u8 (0:Int),.int .u8 (0:Int),.int .u8 (0:Int),.int .u8 (0:Int),.int .u8 (0:Int),.int .u8 (0:Int),.int .u8 (0:Int),.int .u8 (0:Int),.int .u8 (0:Int),.int .u8 (0:Int),.int .u8 (0:Int),.int .u8 (0:Int),.int .u8 (0:Int),.int .u8 (0:Int),.int .u8 (0:Int),.int .u8 (0:Int),.int .u8 (0:Int),.int .u8 (0:Int)],.val (.int .i64 (20:Int))]) (A 0 [.val (.int .i64 n),.val (.int .u64 (IntKind.u64.wrap n)),.box [.int .u8 (0:Int),.int .u8 (0:Int),.int .u8 (0:Int),.int .u8 (0:Int),.int .u8 (0:Int),.int .u8 (0:Int),.int .u8 (0:Int),.int .u8 (0:Int),.int .u8 (0:Int),.int .u8 (0:Int),.int .u8 (0:Int),.int .u8 (0:Int),.int .u8 (0:Int),.int .u8 (0:Int),.int .u8 (0:Int),.int .u8 (0:Int),.int .u8 (0:Int),.int .u8 (0:Int),.int .u8 (0:Int),.int .u8 (0:Int)],.val (.int .i64 (20:Int))]))):=by kernel_rfl
theorem agQ [Env] (A:Nat→List SV→Prop) (Q:V→Prop) (n m:Int) (c:Nat→Int):∀i:Nat,1≤i→i<20→WL Tryz.prog 269 Tryz.f269 Bg 0 w3 A (fun v _=>Q v) 0 (Be n m c i)=agM A Q n m c i
 | 0,h,_=>absurd h (by decide)
 | 1,_,_=>by kernel_rfl
 | 2,_,_=>by kernel_rfl
 | 3,_,_=>by kernel_rfl
 | 4,_,_=>by kernel_rfl
 | 5,_,_=>by kernel_rfl
 | 6,_,_=>by kernel_rfl
 | 7,_,_=>by kernel_rfl
 | 8,_,_=>by kernel_rfl
 | 9,_,_=>by kernel_rfl
 | 10,_,_=>by kernel_rfl
 | 11,_,_=>by kernel_rfl
 | 12,_,_=>by kernel_rfl
 | 13,_,_=>by kernel_rfl
 | 14,_,_=>by kernel_rfl
 | 15,_,_=>by kernel_rfl
 | 16,_,_=>by kernel_rfl
 | 17,_,_=>by kernel_rfl
 | 18,_,_=>by kernel_rfl
 | 19,_,_=>by kernel_rfl
 | _+20,_,h=>absurd h (by omega)
theorem VK [Env] (A:Nat→List SV→Prop) (Q:V→Prop) (n m:Int) (c:Nat→Int):WL Tryz.prog 269 Tryz.f269 Bg 0 w3 A (fun v _=>Q v) 0 (Be n m c 20)=((.i64:IntKind)=.i64∧Y3 A n m c 19):=by kernel_rfl
def Q8 [Env] (vs:List V) (σ:St) (k:ah):Prop:=
 match vs with
 | [.int .i64 n]=>dR n∧k (.str (gp n)) σ
 | _=>False
def Fm [Env]:=kS 269 Q8 Bg
end Go.Proofs.YtbajncpfmemdgaaGreatDoor
end
section
namespace Go.Proofs.YtbajncpfmemdgaaGreatDoor
open Go Go.Ev
def Bh:Nat→List Nat:=(fun i=>match i with | 0=>[0,4,5,23,24,25] | _=>[])
abbrev Q9 [Env] (A:Nat→List SV→Prop) (Q:V→Prop) (s:List UInt8):Prop:=
 ((.i64:IntKind)=.i64∧aa (decide ((((len s:Nat):Int))≥(20:Int))) (Q (.tuple [.int .i64 (0:Int),.int .i64 (7:Int)])) ((len s≤1099511627776∧(((len s)=(len s)∧1=1)∧A 0 [.val (.str s),.val (.str s),.val (.int .u64 (0:Int)),.row (len s) (dM s) 1,.val (.int .i64 (((len s:Nat):Int))),.val (.int .i64 (0:Int))]))))
theorem Bi [Env] (A:Nat→List SV→Prop) (Q:V→Prop) (s:List UInt8):WE Tryz.prog 271 Tryz.f271 Fm 0 Bh A (fun v _=>Q v) [.str s] Go.Ev.start=
  (aa (decide (s≠[])) (((0≤(0:Int)∧(0:Int)<((len s:Nat):Int))∧((.u8:IntKind)=.u8∧aa (decide ((bF s (0:Int))=(45:Int))) (((0≤(1:Int)∧(1:Int)≤((len s:Nat):Int)∧((len s:Nat):Int)≤((len s:Nat):Int))∧((.i64:IntKind)=.i64∧aa (decide ((((len (c9 (1:Int).toNat (cU s ((len s:Nat):Int).toNat)):Nat):Int))≥(20:Int))) (Q (.tuple [.int .i64 (0:Int),.int .i64 (7:Int)])) ((len (c9 (1:Int).toNat (cU s ((len s:Nat):Int).toNat))≤1099511627776∧(((len (c9 (1:Int).toNat (cU s ((len s:Nat):Int).toNat)))=(len (c9 (1:Int).toNat (cU s ((len s:Nat):Int).toNat)))∧1=1)∧A 0 [.val (.str s),.val (.str (c9 (1:Int).toNat (cU s ((len s:Nat):Int).toNat))),.val (.int .u64 (0:Int)),.row (len (c9 (1:Int).toNat (cU s ((len s:Nat):Int).toNat))) (dM (c9 (1:Int).toNat (cU s ((len s:Nat):Int).toNat))) 1,.val (.int .i64 (((len (c9 (1:Int).toNat (cU s ((len s:Nat):Int).toNat)):Nat):Int))),.val (.int .i64 (0:Int))])))))) ((Q9 A Q s))))) ((Q9 A Q s))):=by kernel_rfl
theorem agR [Env] (A:Nat→List SV→Prop) (Q:V→Prop) (s t:List UInt8) (m n i:Int):WL Tryz.prog 271 Tryz.f271 Fm 0 Bh A (fun v _=>Q v) 0 [.val (.str s),.val (.str t),.val (.int .u64 m),.row (len t) (dM t) 1,.val (.int .i64 n),.val (.int .i64 i)]=
  (((.i64:IntKind)=.i64∧aa (decide (i<n)) (((0≤i∧i<((len t:Nat):Int))∧(i.toNat<len t∧((.u8:IntKind)=.u8∧aa (decide ((aw t i.toNat)<(48:Int))) (Q (.tuple [.int .i64 (0:Int),.int .i64 (7:Int)])) (((.u8:IntKind)=.u8∧aa (decide ((aw t i.toNat)>(57:Int))) (Q (.tuple [.int .i64 (0:Int),.int .i64 (7:Int)])) ((((len t)=(len t)∧1=1)∧A 0 [.val (.str s),.val (.str t),.val (.int .u64 (IntKind.u64.wrap ((IntKind.u64.wrap (m*(10:Int)))+(IntKind.u64.wrap (IntKind.u8.wrap ((aw t i.toNat)-(48:Int))))))),.row (len t) (dM t) 1,.val (.int .i64 n),.val (.int .i64 (IntKind.i64.wrap (i+(1:Int))))])))))))) (((.i64:IntKind)=.i64∧aa (decide ((((len t:Nat):Int))<(((len s:Nat):Int)))) ((dR (IntKind.i64.wrap (IntKind.u64.wrap ((0:Int)-m)))∧aa (decide (gp (IntKind.i64.wrap (IntKind.u64.wrap ((0:Int)-m)))≠s)) (Q (.tuple [.int .i64 (0:Int),.int .i64 (7:Int)])) (Q (.tuple [.int .i64 (IntKind.i64.wrap (IntKind.u64.wrap ((0:Int)-m))),.int .i64 (0:Int)])))) ((dR (IntKind.i64.wrap m)∧aa (decide (gp (IntKind.i64.wrap m)≠s)) (Q (.tuple [.int .i64 (0:Int),.int .i64 (7:Int)])) (Q (.tuple [.int .i64 (IntKind.i64.wrap m),.int .i64 (0:Int)])))))))):=by kernel_rfl
def Ra [Env] (vs:List V) (σ:St) (k:ah):Prop:=
 match vs with
 | [.str s]=>k (.tuple [.int .i64 (hP s),.int .i64 (fF s)]) σ
 | _=>False
def Fo [Env]:=kS 271 Ra Fm
def Bj:Nat→List Nat:=(fun i=>match i with | 0=>[0,4,5,6] | _=>[])
theorem agS [Env] (A:Nat→List SV→Prop) (Q:V→Prop) (s:List UInt8):WE Tryz.prog 245 Tryz.f245 Fo 0 Bj A (fun v _=>Q v) [.str s] Go.Ev.start=
  (((.i64:IntKind)=.i64∧aa (decide ((((len s:Nat):Int))>(0:Int))) (((0≤(0:Int)∧(0:Int)<((len s:Nat):Int))∧((.u8:IntKind)=.u8∧aa (decide ((bF s (0:Int))=(45:Int))) (((.i64:IntKind)=.i64∧aa (decide ((((len s:Nat):Int))>(20:Int))) (Q (.tuple [.int .i64 (0:Int),.int .i64 (7:Int)])) (A 0 [.val (.str s),.val (.int .i64 (0:Int)),.val (.int .i64 (1:Int)),.val (.int .i64 (1:Int))]))) (((.i64:IntKind)=.i64∧aa (decide ((((len s:Nat):Int))>(20:Int))) (Q (.tuple [.int .i64 (0:Int),.int .i64 (7:Int)])) (A 0 [.val (.str s),.val (.int .i64 (0:Int)),.val (.int .i64 (0:Int)),.val (.int .i64 (0:Int))])))))) (((.i64:IntKind)=.i64∧aa (decide ((((len s:Nat):Int))>(20:Int))) (Q (.tuple [.int .i64 (0:Int),.int .i64 (7:Int)])) (A 0 [.val (.str s),.val (.int .i64 (0:Int)),.val (.int .i64 (0:Int)),.val (.int .i64 (0:Int))]))))):=by kernel_rfl
theorem agT [Env] (A:Nat→List SV→Prop) (Q:V→Prop) (s:List UInt8) (n d i:Int):WL Tryz.prog 245 Tryz.f245 Fo 0 Bj A (fun v _=>Q v) 0 [.val (.str s),.val (.int .i64 n),.val (.int .i64 d),.val (.int .i64 i)]=
  (((.i64:IntKind)=.i64∧aa (decide (i<(((len s:Nat):Int)))) (((0≤i∧i<((len s:Nat):Int))∧((.u8:IntKind)=.u8∧aa (decide ((bF s i)<(48:Int))) (Q (.tuple [.int .i64 (0:Int),.int .i64 (7:Int)])) (((0≤i∧i<((len s:Nat):Int))∧((.u8:IntKind)=.u8∧aa (decide ((bF s i)>(57:Int))) (Q (.tuple [.int .i64 (0:Int),.int .i64 (7:Int)])) (((0≤i∧i<((len s:Nat):Int))∧A 0 [.val (.str s),.val (.int .i64 (IntKind.i64.wrap ((IntKind.i64.wrap ((IntKind.i64.wrap (n*(10:Int)))+(IntKind.i64.wrap (bF s i))))-(48:Int)))),.val (.int .i64 d),.val (.int .i64 (IntKind.i64.wrap (i+(1:Int))))])))))))) (((.i64:IntKind)=.i64∧aa (decide (d=(1:Int))) ((dR (IntKind.i64.wrap ((0:Int)-n))∧aa (decide (gp (IntKind.i64.wrap ((0:Int)-n))≠s)) (Q (.tuple [.int .i64 (0:Int),.int .i64 (7:Int)])) (Q (.tuple [.int .i64 (IntKind.i64.wrap ((0:Int)-n)),.int .i64 (0:Int)])))) ((dR n∧aa (decide (gp n≠s)) (Q (.tuple [.int .i64 (0:Int),.int .i64 (7:Int)])) (Q (.tuple [.int .i64 n,.int .i64 (0:Int)])))))))):=by kernel_rfl
def Rb [Env] (vs:List V) (σ:St) (k:ah):Prop:=
 match vs with
 | [.str s]=>k (.tuple [.int .i64 (hP s),.int .i64 (fF s)]) σ
 | _=>False
def L1 [Env]:=kS 245 Rb Fo
end Go.Proofs.YtbajncpfmemdgaaGreatDoor
end
section
namespace Go.Proofs.YtbajncpfmemdgaaGreatDoor
open Go Go.Ev Go.IntWalk
theorem F253:bl Tryz.prog 253 Tryz.f253:=.of (by kernel_rfl) (by kernel_rfl)
theorem F162:bl Tryz.prog 162 Tryz.f162:=.of (by kernel_rfl) (by kernel_rfl)
theorem F251:bl Tryz.prog 251 Tryz.f251:=.of (by kernel_rfl) (by kernel_rfl)
theorem F252:bl Tryz.prog 252 Tryz.f252:=.of (by kernel_rfl) (by kernel_rfl)
theorem F265:bl Tryz.prog 265 Tryz.f265:=.of (by kernel_rfl) (by kernel_rfl)
theorem F266:bl Tryz.prog 266 Tryz.f266:=.of (by kernel_rfl) (by kernel_rfl)
theorem F268:bl Tryz.prog 268 Tryz.f268:=.of (by kernel_rfl) (by kernel_rfl)
theorem F242:bl Tryz.prog 242 Tryz.f242:=.of (by kernel_rfl) (by kernel_rfl)
theorem F269:bl Tryz.prog 269 Tryz.f269:=.of (by kernel_rfl) (by kernel_rfl)
def Rc (x:Int):Nat→List SV
 | 0=>[.val (.int .u64 x),.box [.int .u8 (0:Int),.int .u8 (0:Int),.int .u8 (0:Int),.int .u8 (0:Int),.int .u8 (0:Int),.int .u8 (0:Int),.int .u8 (0:Int),.int .u8 (0:Int)],.val (.int .i64 (0:Int))]
 | 1=>[.val (.int .u64 x),.box [.int .u8 (cQ x 56),.int .u8 (0:Int),.int .u8 (0:Int),.int .u8 (0:Int),.int .u8 (0:Int),.int .u8 (0:Int),.int .u8 (0:Int),.int .u8 (0:Int)],.val (.int .i64 (1:Int))]
 | 2=>[.val (.int .u64 x),.box [.int .u8 (cQ x 56),.int .u8 (cQ x 48),.int .u8 (0:Int),.int .u8 (0:Int),.int .u8 (0:Int),.int .u8 (0:Int),.int .u8 (0:Int),.int .u8 (0:Int)],.val (.int .i64 (2:Int))]
 | 3=>[.val (.int .u64 x),.box [.int .u8 (cQ x 56),.int .u8 (cQ x 48),.int .u8 (cQ x 40),.int .u8 (0:Int),.int .u8 (0:Int),.int .u8 (0:Int),.int .u8 (0:Int),.int .u8 (0:Int)],.val (.int .i64 (3:Int))]
 | 4=>[.val (.int .u64 x),.box [.int .u8 (cQ x 56),.int .u8 (cQ x 48),.int .u8 (cQ x 40),.int .u8 (cQ x 32),.int .u8 (0:Int),.int .u8 (0:Int),.int .u8 (0:Int),.int .u8 (0:Int)],.val (.int .i64 (4:Int))]
 | 5=>[.val (.int .u64 x),.box [.int .u8 (cQ x 56),.int .u8 (cQ x 48),.int .u8 (cQ x 40),.int .u8 (cQ x 32),.int .u8 (cQ x 24),.int .u8 (0:Int),.int .u8 (0:Int),.int .u8 (0:Int)],.val (.int .i64 (5:Int))]
 | 6=>[.val (.int .u64 x),.box [.int .u8 (cQ x 56),.int .u8 (cQ x 48),.int .u8 (cQ x 40),.int .u8 (cQ x 32),.int .u8 (cQ x 24),.int .u8 (cQ x 16),.int .u8 (0:Int),.int .u8 (0:Int)],.val (.int .i64 (6:Int))]
 | 7=>[.val (.int .u64 x),.box [.int .u8 (cQ x 56),.int .u8 (cQ x 48),.int .u8 (cQ x 40),.int .u8 (cQ x 32),.int .u8 (cQ x 24),.int .u8 (cQ x 16),.int .u8 (cQ x 8),.int .u8 (0:Int)],.val (.int .i64 (7:Int))]
 | 8=>[.val (.int .u64 x),.box [.int .u8 (cQ x 56),.int .u8 (cQ x 48),.int .u8 (cQ x 40),.int .u8 (cQ x 32),.int .u8 (cQ x 24),.int .u8 (cQ x 16),.int .u8 (cQ x 8),.int .u8 (cQ x 0)],.val (.int .i64 (8:Int))]
 | _=>[]
section
variable [Env] [aZ] {vs:List V} {σ:St} {k:ah}
omit [Env] [aZ] in
theorem Y4 {a b:Int} (h:(1≤a∧a≤5)∧(1≤b∧b≤5)∧¬(a=1∧b=4)∧¬(a=4∧b=1)∧¬(a=3∧b=5)∧¬(a=5∧b=3)):V.bool true=.bool (jh a b):=by unfold jh;rw[decide_eq_true h]
omit [Env] [aZ] in
theorem Y5 {a b:Int} (h:¬((1≤a∧a≤5)∧(1≤b∧b≤5)∧¬(a=1∧b=4)∧¬(a=4∧b=1)∧¬(a=3∧b=5)∧¬(a=5∧b=3))):V.bool false=.bool (jh a b):=by unfold jh;rw[decide_eq_false h]
theorem VL (h:Q0 vs σ k):ag Tryz.prog 253 vs k σ:=by
 unfold Q0 at h
 split at h
 ·rename_i a b
  refine ag.cj (av (Go.Ev.Clean.int _ _) (av (Go.Ev.Clean.int _ _) aM)) (.bool _) (F253.flat (live:=IP) (call:=LV) (n₀:=0) (σ:=Go.Ev.start) (fun h=>IN h) rfl (by kernel_rfl) ?_) h
  rw[agF];unfold Fk
  repeat' first
   | exact Y4 (by omega)
   | exact Y5 (by omega)
   | refine⟨rfl,aq (fun _=>?_) (fun _=>?_)⟩
 ·exact h.elim
theorem IW:∀ {f:FuncId} {vs:List V} {σ:St} {k:ah},LW f vs σ k→ag Tryz.prog f vs k σ:=fun h=>aH VL IN h
theorem VM (h:Q1 vs σ k):ag Tryz.prog 162 vs k σ:=by
 unfold Q1 at h
 split at h
 ·rename_i a b
  refine ag.cj (av (Go.Ev.Clean.int _ _) (av (Go.Ev.Clean.int _ _) aM)) (.bool _) (F162.flat (live:=IQ) (call:=LW) (n₀:=0) (σ:=Go.Ev.start) (fun h=>IW h) rfl (by kernel_rfl) ?_) h
  rw[agG]
  repeat' first
   | exact Y4 (by omega)
   | exact Y5 (by omega)
   | refine⟨rfl,aq (fun _=>?_) (fun _=>?_)⟩
 ·exact h.elim
theorem IX:∀ {f:FuncId} {vs:List V} {σ:St} {k:ah},LX f vs σ k→ag Tryz.prog f vs k σ:=fun h=>aH VM IW h
theorem VN (h:Q2 vs σ k):ag Tryz.prog 251 vs k σ:=by
 unfold Q2 at h
 split at h
 ·rename_i e
  refine(ag.zB (Q:=fun u=>u=.func (.func 265) [] [.aU [.int .i64 e] 0]) (aC (Go.Ev.Clean.int _ _) cJ) (F251.flat (live:=IS) (call:=LX) (n₀:=0) (σ:=Go.Ev.start) (fun h=>IX h) rfl (by kernel_rfl) ?_)).mono fun v τ ⟨h1,h2⟩=>by subst h1;subst h2;exact h
  rw[agH]
  exact⟨_,.func .nil (.cons (.EN (n:=1) (cs:=[.int .i64 e]) (by rfl) (.cons (.int _ _) .nil)) .nil),rfl⟩
 ·exact h.elim
theorem IY:∀ {f:FuncId} {vs:List V} {σ:St} {k:ah},LY f vs σ k→ag Tryz.prog f vs k σ:=fun h=>aH VN IX h
theorem VO (h:Q3 vs σ k):ag Tryz.prog 252 vs k σ:=by
 unfold Q3 at h
 split at h
 ·rename_i a b c s
  refine(ag.zB (Q:=fun u=>u=.func (.func 266) [] [.aU [.int .i64 a,.int .i64 b,.int .u64 c,.str s] 0]) (aC (az.aJ ⟨a,b,c,s⟩) cJ) (F252.flat (live:=IT) (call:=LY) (n₀:=0) (σ:=Go.Ev.start) (fun h=>IY h) rfl (by kernel_rfl) ?_)).mono fun v τ ⟨h1,h2⟩=>by subst h1;subst h2;exact h
  rw[agI]
  exact⟨_,.func .nil (.cons (.EN (n:=4) (cs:=[.int .i64 a,.int .i64 b,.int .u64 c,.str s]) (by rfl) (.cons (.int _ _) (.cons (.int _ _) (.cons (.int _ _) (.cons (.str _) .nil))))) .nil),rfl⟩
 ·exact h.elim
theorem IZ:∀ {f:FuncId} {vs:List V} {σ:St} {k:ah},LZ f vs σ k→ag Tryz.prog f vs k σ:=fun h=>aH VO IY h
theorem VP (h:Q4 vs σ k):ag Tryz.prog 265 vs k σ:=by
 unfold Q4 at h
 split at h
 ·rename_i e
  refine ag.cj (av (Go.Ev.Clean.aU (aC (Go.Ev.Clean.int _ _) cJ)) aM) (.tuple (bN (.agg (bN (.int _ _) (bN (.int _ _) (bN (.int _ _) (bN (.str _) gn))))) (bN (.int _ _) gn))) (F265.flat (live:=IU) (call:=LZ) (n₀:=0) (σ:=Go.Ev.start) (fun h=>IZ h) rfl (by kernel_rfl) ?_) h
  rw[agJ]
 ·exact h.elim
theorem I0:∀ {f:FuncId} {vs:List V} {σ:St} {k:ah},L0 f vs σ k→ag Tryz.prog f vs k σ:=fun h=>aH VP IZ h
theorem VQ (h:Q5 vs σ k):ag Tryz.prog 266 vs k σ:=by
 unfold Q5 at h
 split at h
 ·rename_i a b c s
  refine ag.cj (av (Go.Ev.Clean.aU (az.clean ⟨a,b,c,s⟩)) aM) (.tuple (bN (.agg (bN (.int _ _) (bN (.int _ _) (bN (.int _ _) (bN (.str _) gn))))) (bN (.int _ _) gn))) (F266.flat (live:=IV) (call:=L0) (n₀:=0) (σ:=Go.Ev.start) (fun h=>I0 h) rfl (by kernel_rfl) ?_) h
  rw[agK]
 ·exact h.elim
theorem I1:∀ {f:FuncId} {vs:List V} {σ:St} {k:ah},nB f vs σ k→ag Tryz.prog f vs k σ:=fun h=>aH VQ I0 h
def agU (x:Int):Nat→List SV→Prop
 | 0,ss=>∃i:Nat,i≤8∧ss=Rc x i
 | _,_=>False
omit [aZ] in
theorem L2 (x:Int):∀i,∀s∈Rc x i,s.clean:=by
 intro i
 unfold Rc
 split<;>first
  | exact bG
  | exact aG (aN (aC (Go.Ev.Clean.int _ _) (aC (Go.Ev.Clean.int _ _) (aC (Go.Ev.Clean.int _ _) (aC (Go.Ev.Clean.int _ _) (aC (Go.Ev.Clean.int _ _) (aC (Go.Ev.Clean.int _ _) (aC (Go.Ev.Clean.int _ _) (aC (Go.Ev.Clean.int _ _) cJ)))))))) (aG bG))
theorem VR (h:Q6 vs σ k):ag Tryz.prog 268 vs k σ:=by
 unfold Q6 at h
 split at h
 ·rename_i x
  refine ag.cj (av (Go.Ev.Clean.int _ _) aM) (.str _) (F268.cf (live:=ji) (call:=nB) (n₀:=0) (σ:=Go.Ev.start) (fun h=>I1 h) rfl 1 (by kernel_rfl) Nat.lt_wfRel.wf (fun _ ss=>8-cb ss) (agU x) ?_ ?_ ?_) h
  ·intro k ss hI
   cases k with
   | zero=>obtain⟨i,_,rfl⟩:=hI;exact L2 x i
   | succ k=>exact hI.elim
  ·rw[agL]
   exact⟨0,by omega,rfl⟩
  ·intro k hk ss hI
   obtain rfl:k=0:=by omega
   obtain⟨i,hi,rfl⟩:=hI
   match i,hi with
   | 0,_=>exact(YU _ _ x fun j=>cQ x (56-8*j)).mpr ⟨rfl,by decide,⟨1,by decide,rfl⟩,(by show(8-1:Nat)<8-0;decide)⟩
   | 1,_=>exact(YV _ _ x fun j=>cQ x (56-8*j)).mpr ⟨rfl,by decide,⟨2,by decide,rfl⟩,(by show(8-2:Nat)<8-1;decide)⟩
   | 2,_=>exact(YW _ _ x fun j=>cQ x (56-8*j)).mpr ⟨rfl,by decide,⟨3,by decide,rfl⟩,(by show(8-3:Nat)<8-2;decide)⟩
   | 3,_=>exact(YX _ _ x fun j=>cQ x (56-8*j)).mpr ⟨rfl,by decide,⟨4,by decide,rfl⟩,(by show(8-4:Nat)<8-3;decide)⟩
   | 4,_=>exact(YY _ _ x fun j=>cQ x (56-8*j)).mpr ⟨rfl,by decide,⟨5,by decide,rfl⟩,(by show(8-5:Nat)<8-4;decide)⟩
   | 5,_=>exact(YZ _ _ x fun j=>cQ x (56-8*j)).mpr ⟨rfl,by decide,⟨6,by decide,rfl⟩,(by show(8-6:Nat)<8-5;decide)⟩
   | 6,_=>exact(Y0 _ _ x fun j=>cQ x (56-8*j)).mpr ⟨rfl,by decide,⟨7,by decide,rfl⟩,(by show(8-7:Nat)<8-6;decide)⟩
   | 7,_=>exact(Y1 _ _ x fun j=>cQ x (56-8*j)).mpr ⟨rfl,by decide,⟨8,by decide,rfl⟩,(by show(8-8:Nat)<8-7;decide)⟩
   | 8,_=>exact(Y2 _ _ x fun j=>cQ x (56-8*j)).mpr ⟨rfl,rfl⟩
 ·exact h.elim
theorem I2:∀ {f:FuncId} {vs:List V} {σ:St} {k:ah},Fl f vs σ k→ag Tryz.prog f vs k σ:=fun h=>aH VR I1 h
end
end Go.Proofs.YtbajncpfmemdgaaGreatDoor
end
section
namespace Go.Proofs.YtbajncpfmemdgaaGreatDoor
open Go Go.Ev Go.IntWalk
theorem F271:bl Tryz.prog 271 Tryz.f271:=.of (by kernel_rfl) (by kernel_rfl)
theorem F245:bl Tryz.prog 245 Tryz.f245:=.of (by kernel_rfl) (by kernel_rfl)
theorem Cx {x:Int} (h0:0≤x) (h1:x<18446744073709551616):IntKind.u64.wrap x=x:=by rw[wrap_u64];exact Int.emod_eq_of_lt h0 h1
theorem u8n {x:Int} (h0:0≤x) (h1:x<256):IntKind.u8.wrap x=x:=by
 unfold IntKind.wrap
 show(if (false&&_)=true then _ else x%256)=_
 exact Int.emod_eq_of_lt h0 h1
theorem Y6 {m:Nat} (h:m<10):UInt8.ofNat (IntKind.u8.wrap (IntKind.u64.wrap ((48:Int)+(m:Int)))).toNat=byteOf ((48+m:Nat):Int):=by
 rw[Cx (by omega) (by omega),u8n (by omega) (by omega),show(48:Int)+(m:Int)=((48+m:Nat):Int) by omega];rfl
theorem Uj (m:Nat):((m:Int)).tmod (10:Int)=((m%10:Nat):Int):=by rw[Int.tmod_eq_emod_of_nonneg (by omega)];omega
theorem L3 {m:Nat} (h:m<18446744073709551616):IntKind.u64.wrap (((m:Int)).tdiv (10:Int))=((m/10:Nat):Int):=by
 rw[Int.tdiv_eq_ediv_of_nonneg (by omega),Cx (by omega) (by omega)];omega
theorem yj:∀(f:Nat) {m:Nat},m<10→gb f m=[byteOf ((48+m:Nat):Int)]
 | 0,_,_=>rfl
 | _+1,_,h=>by rw[gb,if_pos h]
theorem Cy:∀(f g:Nat) {m:Nat},m<10^(f+1)→m<10^(g+1)→gb f m=gb g m
 | 0,g,m,h,_=>by rw[yj g (by omega)];rfl
 | f+1,0,m,_,h=>by rw[yj (f+1) (by omega)];rfl
 | f+1,g+1,m,h1,h2=>by
  unfold gb
  split
  ·rfl
  ·rw[Nat.pow_succ] at h1 h2
   rw[Cy f g (Nat.div_lt_of_lt_mul (by omega)) (Nat.div_lt_of_lt_mul (by omega))]
theorem Fp {m:Nat} (h:10≤m) (hm:m<1000000000000000000000):gb 20 m=gb 20 (m/10)++[byteOf ((48+m%10:Nat):Int)]:=by
 rw[show gb 20 m=gb 19 (m/10)++[byteOf ((48+m%10:Nat):Int)] by rw[gb,if_neg (by omega)],Cy 19 20 (by show m/10<100000000000000000000;omega) (by show m/10<1000000000000000000000;omega)]
theorem I3 {m:Nat} (h:m<10):gb 20 m=[byteOf ((48+m:Nat):Int)]:=yj 20 h
noncomputable def dv (t:List UInt8):Nat→Int
 | 0=>0
 | i+1=>dv t i*10+(aw t i-48)
theorem I4 (t u:List UInt8):∀i,i≤t.length→dv (t++u) i=dv t i
 | 0,_=>rfl
 | i+1,h=>by unfold dv;rw[I4 t u i (by omega),tF (by omega)]
structure qS (m:Nat) (t:List UInt8):Prop where
 len:0<t.length
 small:∀k,0<k→m<10^k→t.length≤k
 OJ:∀i,i<t.length→48≤aw t i∧aw t i≤57
 val:dv t t.length=m
theorem wb {x:Nat} (h:x<10):aw [byteOf ((48+x:Nat):Int)] 0=((48+x:Nat):Int):=by
 rw[js (by simp)];exact v7 (by omega) (by omega)
theorem zK {m:Nat} (h:m<10):qS m [byteOf ((48+m:Nat):Int)] where
 len:=by simp
 small:=fun k hk _=>hk
 OJ:=fun i hi=>by
  obtain rfl:i=0:=by simpa using hi
  rw[wb h];omega
 val:=by
  show(0*10+(aw [byteOf ((48+m:Nat):Int)] 0-48):Int)=m
  rw[wb h];omega
theorem w4:∀(f m:Nat),m<10^(f+1)→qS m (gb f m)
 | 0,m,h=>zK (by omega)
 | f+1,m,h=>by
  unfold gb
  split
  ·rename_i h;exact zK h
  ·rename_i mb
   rw[Nat.pow_succ] at h
   have ih:=w4 f (m/10) (Nat.div_lt_of_lt_mul (by omega))
   have hl:(gb f (m/10)++[byteOf ((48+m%10:Nat):Int)]).length=(gb f (m/10)).length+1:=by simp
   have hb:aw (gb f (m/10)++[byteOf ((48+m%10:Nat):Int)]) (gb f (m/10)).length=((48+m%10:Nat):Int):=by
    rw[xI (Nat.le_refl _) (by simp),Nat.sub_self,wb (by omega)]
   refine⟨by omega,fun k hk hm=>?_,fun i hi=>?_,?_⟩
   ·match k,hk,hm with
    | 1,_,hm=>omega
    | k+2,_,hm=>
     rw[Nat.pow_succ] at hm
     have:=ih.small (k+1) (by omega) (Nat.div_lt_of_lt_mul (by omega))
     omega
   ·by_cases he:i=(gb f (m/10)).length
    ·rw[he,hb];omega
    ·rw[tF (by omega)];exact ih.OJ i (by omega)
   ·rw[hl,dv,I4 _ _ _ (Nat.le_refl _),ih.val,hb];omega
structure acO (n:Int) (s:List UInt8):Prop where
 neg:n<0→∃t,s=byteOf 45::t∧qS n.natAbs t
 pos:¬n<0→qS n.natAbs s
theorem Bk {n:Int} (h:dR n):acO n (gp n):=by
 have hd:=w4 20 n.natAbs (by have:=h.1;have:=h.2;show n.natAbs<1000000000000000000000;omega)
 exact⟨fun h0=>⟨_,by unfold gp;rw[if_pos h0];rfl,hd⟩,fun h0=>by unfold gp;rw[if_neg h0];exact hd⟩
theorem zL (c:UInt8) (t:List UInt8):aw (c::t) 0=(c.toNat:Int):=by rw[js (by simp)];rfl
theorem L4 (c:UInt8) (t:List UInt8) (i:Nat):aw (c::t) (i+1)=aw t i:=rfl
theorem qS.head {m:Nat} {t:List UInt8} (h:qS m t):aw t 0≠45:=by have:=h.OJ 0 h.len;omega
theorem dash (t:List UInt8):aw (byteOf 45::t) 0=45:=by rw[zL];exact v7 (by decide) (by decide)
theorem Rd {n m:Int} (hn:dR n) (hm:dR m) (h:gp n=gp m):n=m:=by
 have dn:=Bk hn
 have dm:=Bk hm
 rw[h] at dn
 by_cases h0:n<0
 ·obtain⟨t,e1,d1⟩:=dn.neg h0
  by_cases h1:m<0
  ·obtain⟨u,e2,d2⟩:=dm.neg h1
   rw[e1] at e2
   cases e2
   have:=d1.val.symm.trans d2.val
   omega
  ·have:=(dm.pos h1).head
   rw[e1,dash] at this
   exact(this rfl).elim
 ·by_cases h1:m<0
  ·obtain⟨u,e2,d2⟩:=dm.neg h1
   have:=(dn.pos h0).head
   rw[e2,dash] at this
   exact(this rfl).elim
  ·have:=(dn.pos h0).val.symm.trans (dm.pos h1).val
   omega
theorem VT {s:List UInt8} {n:Int} (hn:dR n) (h:gp n=s):hP s=n∧fF s=0:=by
 have hp:Bd s:=⟨n,hn,h⟩
 constructor
 ·unfold hP
  rw[dif_pos hp]
  exact Rd (Classical.choose_spec hp).1 hn ((Classical.choose_spec hp).2.trans h.symm)
 ·unfold fF;rw[if_pos hp]
theorem wc {s:List UInt8} (h:¬Bd s):hP s=0∧fF s=7:=by
 constructor
 ·unfold hP;rw[dif_neg h]
 ·unfold fF;rw[if_neg h]
theorem Bl {s:List UInt8} {n e:Int} (h:hP s=n∧fF s=e):V.tuple [.int .i64 n,.int .i64 e]=.tuple [.int .i64 (hP s),.int .i64 (fF s)]:=by rw[h.1,h.2]
def agV (n:Int):Nat→List SV→Prop
 | 0,ss=>∃(m:Nat) (s:List UInt8),m≤9223372036854775808∧s.length+20≤9223372036854775807∧gb 20 n.natAbs=gb 20 m++s∧ss=[.val (.int .i64 n),.val (.int .u64 ((m:Nat):Int)),.val (.str s)]
 | _,_=>False
def agW:List SV→Nat
 | [_,.val (.int _ m),_]=>m.toNat
 | _=>0
structure qc (n:Int) (i M:Nat) (c:Nat→Int):Prop where
 small:M<10^(i-1)
 first:i=20→M=n.natAbs
 rest:i<20→gb 20 n.natAbs=(if M=0 then [] else gb 20 M)++lc c i
theorem Y7 (c:Nat→Int) (i:Nat) (x:Int) (hi:i<20):lc (put c i x) i=UInt8.ofNat x.toNat::lc c (i+1):=by
 unfold lc
 rw[List.drop_eq_getElem_cons (by simp;omega)]
 simp only[List.map_cons,List.getElem_range]
 congr 1
 ·unfold put;rw[if_pos rfl]
 ·refine List.map_congr_left fun j hj=>?_
  unfold put
  rw[if_neg]
  intro e
  obtain⟨q,hq,e2⟩:=List.mem_iff_getElem.mp hj
  simp at e2
  omega
theorem qc.step {n:Int} {i M:Nat} {c:Nat→Int} (h:qc n i M c) (h0:1≤i) (h1:i≤20) (hM:i=20∨M≠0) (hb:M≤9223372036854775808):
  2≤i∧qc n (i-1) (M/10) (put c (i-1) (IntKind.u8.wrap (IntKind.u64.wrap ((48:Int)+(((M:Nat):Int)).tmod (10:Int))))):=by
 have hi:2≤i:=by
  rcases hM with e | e
  ·omega
  ·refine Classical.byContradiction fun c=>?_
   obtain rfl:i=1:=by omega
   have:=h.small
   omega
 refine⟨hi,⟨?_,fun e=>by omega,fun _=>?_⟩⟩
 ·have:=h.small
  rw[show i-1=i-1-1+1 by omega,Nat.pow_succ] at this
  exact Nat.div_lt_of_lt_mul (by omega)
 ·rw[Y7 _ _ _ (by omega),show i-1+1=i by omega,Uj,Y6 (by omega)]
  have hd:gb 20 M=(if M/10=0 then [] else gb 20 (M/10))++[byteOf ((48+M%10:Nat):Int)]:=by
   by_cases mb:M<10
   ·rw[I3 mb,if_pos (by omega),Nat.mod_eq_of_lt mb];rfl
   ·rw[if_neg (by omega),Fp (by omega) (by omega)]
  by_cases e20:i=20
  ·subst e20
   rw[←h.first rfl,hd,show lc c 20=[] from rfl]
  ·have hr:=h.rest (by omega)
   have hM0:M≠0:=hM.resolve_left e20
   rw[if_neg hM0,hd,List.append_assoc] at hr
   exact hr
theorem qc.last {n:Int} {i M:Nat} {c:Nat→Int} (h:qc n i M c) (h1:i<20) (h0:M=0):gb 20 n.natAbs=lc c i:=by
 have:=h.rest h1
 rw[if_pos h0] at this
 exact this
def agX (n:Int):Nat→List SV→Prop
 | 0,ss=>∃(i M:Nat) (c:Nat→Int),(1≤i∧i≤20∧M≤9223372036854775808)∧ss=Be n ((M:Nat):Int) c i∧qc n i M c
 | _,_=>False
section
variable [Env] [aZ] {vs:List V} {σ:St} {k:ah}
theorem VU (h:Q7 vs σ k):ag Tryz.prog 242 vs k σ:=by
 unfold Q7 at h
 split at h
 ·rename_i n
  obtain⟨hn,h⟩:=h
  have hN:n.natAbs≤9223372036854775808:=by have:=hn.1;have:=hn.2;omega
  refine ag.cj (av (Go.Ev.Clean.int _ _) aM) (.str _) (F242.cf (live:=Bf) (call:=Fl) (n₀:=0) (σ:=Go.Ev.start) (fun h=>I2 h) rfl 1 (by kernel_rfl) Nat.lt_wfRel.wf (fun _ ss=>agW ss) (agV n) ?_ ?_ ?_) h
  ·intro k ss hI
   cases k with
   | zero=>obtain⟨m,s,_,_,_,rfl⟩:=hI;exact aG (aG (gD bG))
   | succ k=>exact hI.elim
  ·rw[agN]
   refine⟨rfl,aq (fun h2=>⟨n.natAbs,[],hN,by decide,by rw[List.append_nil],?_⟩) fun h2=>⟨n.natAbs,[],hN,by decide,by rw[List.append_nil],?_⟩⟩
   ·rw[wrap_u64,wrap_u64,show(0-n%18446744073709551616)%18446744073709551616=((n.natAbs:Nat):Int) by have:=hn.1;omega]
   ·rw[wrap_u64,show n%18446744073709551616=((n.natAbs:Nat):Int) by have:=hn.2;omega]
  ·intro k hk ss hI
   obtain rfl:k=0:=by omega
   obtain⟨m,s,hm,hs,hd,rfl⟩:=hI
   have hdl:=(w4 20 n.natAbs (by show n.natAbs<1000000000000000000000;omega)).small 20 (by decide) (by show n.natAbs<100000000000000000000;omega)
   have uG:=(w4 20 m (by show m<1000000000000000000000;omega)).len
   have hll:s.length<20:=by rw[hd,List.length_append] at hdl;omega
   rw[agO]
   refine⟨rfl,aq (fun h1=>?_) fun h1=>?_⟩
   ·rw[Uj,Y6 (by omega),L3 (by omega)]
    refine⟨⟨rfl,by decide⟩,by simp only[List.length_singleton];omega,⟨rfl,by decide⟩,⟨m/10,_,by omega,?_,?_,rfl⟩,?_⟩
    ·simp;omega
    ·rw[hd,Fp (by omega) (by omega),List.append_assoc]
    ·show(((m/10:Nat):Int)).toNat<(((m:Nat):Int)).toNat
     omega
   ·rw[Y6 (by omega)]
    rw[I3 (m:=m) (by omega)] at hd
    refine⟨by simp only[List.length_singleton];omega,rfl,aq (fun h2=>⟨by simp only[List.length_singleton,List.length_append];omega,?_⟩) fun h2=>?_⟩
    ·unfold gp;rw[if_pos h2,hd];rfl
    ·unfold gp;rw[if_neg h2,hd];rfl
 ·exact h.elim
theorem I5:∀ {f:FuncId} {vs:List V} {σ:St} {k:ah},Bg f vs σ k→ag Tryz.prog f vs k σ:=fun h=>aH VU I2 h
omit [aZ] in
theorem L5 (n m:Int) (c:Nat→Int) (i:Nat):∀s∈Be n m c i,s.clean:=by
 unfold Be
 exact aG (aG (aN (fun u hu=>by
  obtain⟨j,_,rfl⟩:=List.mem_map.1 hu
  exact Go.Ev.Clean.int _ _) (aG bG)))
omit [Env] [aZ] in
theorem OK {c:Nat→Int} {n:Int} {i:Nat} (h:gp n=(if n<0 then [UInt8.ofNat (45:Int).toNat] else [])++lc c i):(n<0→gp n=UInt8.ofNat (45:Int).toNat::lc c i)∧(¬n<0→gp n=lc c i):=
 ⟨fun h3=>by rw[h,if_pos h3];rfl,fun h3=>by rw[h,if_neg h3];rfl⟩
theorem VV (h:Q8 vs σ k):ag Tryz.prog 269 vs k σ:=by
 unfold Q8 at h
 split at h
 ·rename_i n
  obtain⟨hn,h⟩:=h
  have hN:n.natAbs≤9223372036854775808:=by have:=hn.1;have:=hn.2;omega
  refine ag.cj (av (Go.Ev.Clean.int _ _) aM) (.str _) (F269.cf (live:=w3) (call:=Bg) (n₀:=0) (σ:=Go.Ev.start) (fun h=>I5 h) rfl 1 (by kernel_rfl) Nat.lt_wfRel.wf (fun _ ss=>cb ss) (agX n) ?_ ?_ ?_) h
  ·intro k ss hI
   cases k with
   | zero=>obtain⟨i,M,c,_,rfl,_⟩:=hI;exact L5 _ _ _ _
   | succ k=>exact hI.elim
  ·rw[agP]
   have hI:qc n 20 n.natAbs (fun _=>0):=⟨by show n.natAbs<10000000000000000000;omega,fun _=>rfl,fun h=>by omega⟩
   refine⟨rfl,aq (fun h2=>⟨20,n.natAbs,_,⟨by decide,by decide,hN⟩,?_,hI⟩) fun h2=>⟨20,n.natAbs,_,⟨by decide,by decide,hN⟩,?_,hI⟩⟩
   ·rw[wrap_u64,wrap_u64,show(0-n%18446744073709551616)%18446744073709551616=((n.natAbs:Nat):Int) by have:=hn.1;omega];rfl
   ·rw[wrap_u64,show n%18446744073709551616=((n.natAbs:Nat):Int) by have:=hn.2;omega];rfl
  ·intro k hk ss hI
   obtain rfl:k=0:=by omega
   obtain⟨i,M,c,⟨h0,h1,hM⟩,rfl,hI⟩:=hI
   have fin:i<20→M=0→gp n=(if n<0 then [UInt8.ofNat (45:Int).toNat] else [])++lc c i:=fun h2 h3=>by unfold gp;rw[hI.last h2 h3];rfl
   by_cases h20:i=20
   ·subst h20
    have hs:=hI.step h0 h1 (.inl rfl) hM
    exact(VK _ _ n ((M:Nat):Int) c).mpr ⟨rfl,⟨rfl,by decide⟩,⟨rfl,by decide⟩,⟨19,M/10,_,⟨by omega,by omega,by omega⟩,by rw[L3 (by omega)],hs.2⟩,(by show(19:Nat)<20;decide)⟩
   ·rw[agQ _ _ _ _ _ i h0 (by omega)]
    refine⟨rfl,rfl,aq (fun h2=>?_) fun h2=>⟨rfl,aq (fun h3=>?_) fun h3=>?_⟩⟩
    ·have hs:=hI.step h0 h1 (.inr (by omega)) hM
     exact⟨⟨rfl,by decide⟩,⟨rfl,by decide⟩,⟨i-1,M/10,_,⟨by omega,by omega,by omega⟩,by rw[L3 (by omega)],hs.2⟩,(by show i-1<i;omega)⟩
    ·rw[(OK (fin (by omega) (by omega))).1 h3]
    ·rw[(OK (fin (by omega) (by omega))).2 h3]
 ·exact h.elim
theorem I6:∀ {f:FuncId} {vs:List V} {σ:St} {k:ah},Fm f vs σ k→ag Tryz.prog f vs k σ:=fun h=>aH VV I5 h
end
end Go.Proofs.YtbajncpfmemdgaaGreatDoor
end
section
namespace Go.Proofs.YtbajncpfmemdgaaGreatDoor
open Go Go.Ev Go.IntWalk
theorem pa (x:Int):IntKind.i64.wrap x=Int.bmod x 18446744073709551616:=by
 unfold IntKind.wrap Int.bmod
 show(if (true&&_)=true then x%18446744073709551616-18446744073709551616 else x%18446744073709551616)=if x%18446744073709551616<(18446744073709551616+1)/2 then x%18446744073709551616 else x%18446744073709551616-18446744073709551616
 simp only[Bool.true_and,decide_eq_true_eq]
 show(if (9223372036854775808:Int)≤x%18446744073709551616 then _ else _)=_
 split<;>split<;>first | rfl | omega
theorem Cz (x:Int):dR (IntKind.i64.wrap x):=by
 rw[pa]
 have h1:=Int.le_bmod (x:=x) (m:=18446744073709551616) (by decide)
 have h2:=Int.bmod_lt (x:=x) (m:=18446744073709551616) (by decide)
 constructor<;>omega
theorem Re {x:Int} (h:dR x):IntKind.i64.wrap x=x:=by
 have:=h.1;have:=h.2
 exact i64_in x (by omega)
def ml (s t:List UInt8):Prop:=(t=s∧∀u,s≠byteOf 45::u)∨s=byteOf 45::t
theorem ml.num {s t:List UInt8} (h:ml s t) (hp:Bd s):∃n,dR n∧gp n=s∧qS n.natAbs t∧(n<0↔s=byteOf 45::t):=by
 obtain⟨n,hn,he⟩:=hp
 have hd:=Bk hn
 rw[he] at hd
 refine⟨n,hn,he,?_⟩
 by_cases h0:n<0
 ·obtain⟨u,e,d⟩:=hd.neg h0
  rcases h with ⟨_,h⟩ | h
  ·exact(h u e).elim
  ·rw[h] at e;cases e;exact⟨d,fun _=>h,fun _=>h0⟩
 ·have d:=hd.pos h0
  rcases h with ⟨rfl,h⟩ | h
  ·exact⟨d,fun h=>(h0 h).elim,fun e=>(h _ e).elim⟩
  ·have:=d.head;rw[h,dash] at this;exact(this rfl).elim
theorem ml.len {s t:List UInt8} (h:ml s t):(t.length<s.length↔s=byteOf 45::t)∧t.length≤s.length∧s.length≤t.length+1:=by
 rcases h with ⟨rfl,h⟩ | rfl
 ·exact⟨⟨fun c=>by omega,fun e=>(h _ e).elim⟩,by omega,by omega⟩
 ·simp
theorem Uk {n:Int} (hn:dR n) {t:List UInt8} (h:qS n.natAbs t):t.length≤19:=h.small 19 (by decide) (by have:=hn.1;have:=hn.2;show n.natAbs<10000000000000000000;omega)
theorem ml.done {s t:List UInt8} (h:ml s t) {x:Int} (hx:x=IntKind.i64.wrap (if s=byteOf 45::t then -dv t t.length else dv t t.length)):Bd s↔gp x=s:=by
 constructor
 ·intro hp
  obtain⟨n,hn,he,hd,hs⟩:=h.num hp
  rw[hd.val] at hx
  have:x=n:=by
   rw[hx]
   refine Eq.trans (congrArg IntKind.i64.wrap ?_) (Re hn)
   by_cases c:s=byteOf 45::t
   ·rw[if_pos c];have:=hs.mpr c;omega
   ·rw[if_neg c];have:¬n<0:=fun c2=>c (hs.mp c2);omega
  rw[this];exact he
 ·intro he
  exact⟨x,by rw[hx];exact Cz _,he⟩
theorem ml.ends {s t:List UInt8} (h:ml s t) {x:Int} (hx:x=IntKind.i64.wrap (if s=byteOf 45::t then -dv t t.length else dv t t.length)) {A:V→Prop} (hA:A (.tuple [.int .i64 (hP s),.int .i64 (fF s)])):
  dR x∧aa (decide (gp x≠s)) (A (.tuple [.int .i64 0,.int .i64 7])) (A (.tuple [.int .i64 x,.int .i64 0])):=by
 have hxP:dR x:=by rw[hx];exact Cz _
 refine⟨hxP,aq (fun h1=>?_) fun h1=>?_⟩
 ·rw[Bl (wc fun hp=>h1 ((h.done hx).mp hp))];exact hA
 ·rw[Bl (VT hxP (Classical.not_not.mp h1))];exact hA
def Y8 (s:List UInt8):Nat→List SV→Prop
 | 0,ss=>∃(t:List UInt8) (i:Nat),(ml s t∧t.length<20∧i≤t.length∧∀j,j<i→48≤aw t j∧aw t j≤57)∧
   ss=[.val (.str s),.val (.str t),.val (.int .u64 (dv t i%18446744073709551616)),.row (len t) (dM t) 1,.val (.int .i64 ((t.length:Nat):Int)),.val (.int .i64 ((i:Nat):Int))]
 | _,_=>False
def Y9 (s:List UInt8):Nat→List SV→Prop
 | 0,ss=>∃(t:List UInt8) (d i:Nat),(ml s t∧t.length<21∧i≤t.length∧d=s.length-t.length∧∀j,j<i→48≤aw t j∧aw t j≤57)∧
   ss=[.val (.str s),.val (.int .i64 (IntKind.i64.wrap (dv t i))),.val (.int .i64 ((d:Nat):Int)),.val (.int .i64 ((i+d:Nat):Int))]
 | _,_=>False
def Za:Nat→List SV→Nat:=fun n ss=>n-cb ss
theorem OL {s:List UInt8} (h0:s≠[]) (h:aw s 0=45):s=byteOf 45::s.drop 1:=by
 cases s with
 | nil=>exact(h0 rfl).elim
 | cons c t=>
  rw[zL] at h
  rw[show c=byteOf 45 from UInt8.toNat_inj.mp (by show c.toNat=45;omega)];rfl
theorem Fq {s:List UInt8} (h:aw s 0≠45):∀u,s≠byteOf 45::u:=fun u e=>h (by rw[e,dash])
theorem hL:(len:List UInt8→Nat)=List.length:=funext fun _=>aP _
theorem OM [Env] {n:Nat} {t:List UInt8} {l:List SV} (hl:∀u∈l,u.clean):∀u∈SV.row n (dM t) 1::l,u.clean:=aN (fun i _ u hu=>by
 rw[show(dM t i).cells=[.int .u8 (aw t i)] from rfl] at hu
 obtain rfl:=List.mem_singleton.mp hu
 exact Go.Ev.Clean.int _ _) hl
section
variable [Env] [aZ] {vs:List V} {σ:St} {k:ah}
theorem VW (h:Ra vs σ k):ag Tryz.prog 271 vs k σ:=by
 unfold Ra at h
 split at h
 ·rename_i s
  refine ag.cj (av (Go.Ev.Clean.str _) aM) (.tuple (bN (.int _ _) (bN (.int _ _) gn))) (F271.cf (live:=Bh) (call:=Fm) (n₀:=0) (σ:=Go.Ev.start) (fun h=>I6 h) rfl 1 (by kernel_rfl) Nat.lt_wfRel.wf (fun _ ss=>Za 20 ss) (Y8 s) ?_ ?_ ?_) h
  ·intro k ss hI
   cases k with
   | zero=>obtain⟨t,i,_,rfl⟩:=hI;exact gD (gD (aG (OM (aG (aG bG)))))
   | succ k=>exact hI.elim
  ·rw[Bi];unfold Q9
   rw[hL]
   have go:∀ {t:List UInt8},ml s t→t.length<20→Y8 s 0 [.val (.str s),.val (.str t),.val (.int .u64 (0:Int)),.row t.length (dM t) 1,.val (.int .i64 ((t.length:Nat):Int)),.val (.int .i64 (0:Int))]:=fun {t} h1 h2=>
    ⟨t,0,⟨h1,h2,Nat.zero_le _,fun j hj=>absurd hj (Nat.not_lt_zero _)⟩,by rw[hL];rfl⟩
   have no:∀ {t:List UInt8},ml s t→¬t.length<20→V.tuple [.int .i64 (0:Int),.int .i64 (7:Int)]=.tuple [.int .i64 (hP s),.int .i64 (fF s)]:=fun h1 h2=>Bl (wc fun hp=>by
    obtain⟨n,hn,_,hd,_⟩:=h1.num hp
    have:=Uk hn hd;omega)
   refine aq (fun h0=>?_) fun h0=>?_
   ·have hl:0<s.length:=List.length_pos_iff.mpr h0
    refine⟨⟨by omega,by omega⟩,rfl,aq (fun h1=>?_) fun h1=>?_⟩
    ·have ew:aw s 0=45:=h1
     have hs:ml s (s.drop 1):=.inr (OL h0 ew)
     have ht:c9 (1:Int).toNat (cU s ((s.length:Nat):Int).toNat)=s.drop 1:=by
      rw[dJ,er,dW,List.take_length];rfl
     rw[ht]
     refine⟨⟨by omega,by omega,by omega⟩,rfl,aq (fun h2=>no hs (by omega)) fun h2=>⟨?_,⟨rfl,rfl⟩,go hs (by omega)⟩⟩
     omega
    ·have hs:ml s s:=.inl ⟨rfl,Fq h1⟩
     exact⟨rfl,aq (fun h2=>no hs (by omega)) fun h2=>⟨by omega,⟨rfl,rfl⟩,go hs (by omega)⟩⟩
   ·have h0:s=[]:=Classical.not_not.mp h0
    subst h0
    have hs:ml [] []:=.inl ⟨rfl,fun u e=>by cases e⟩
    exact⟨rfl,aq (fun h2=>no hs (by have:((([]:List UInt8).length:Nat):Int)=0:=rfl;omega)) fun h2=>⟨by decide,⟨rfl,rfl⟩,go hs (by decide)⟩⟩
  ·intro k hk ss hI
   obtain rfl:k=0:=by omega
   obtain⟨t,i,⟨hs,hl,hi,hd⟩,rfl⟩:=hI
   rw[agR]
   rw[hL]
   have hr:=iP t i
   have no:¬(48≤aw t i∧aw t i≤57)→i<t.length→V.tuple [.int .i64 (0:Int),.int .i64 (7:Int)]=.tuple [.int .i64 (hP s),.int .i64 (fF s)]:=fun h1 h2=>Bl (wc fun hp=>by
    obtain⟨n,hn,_,Zb,_⟩:=hs.num hp
    exact h1 (Zb.OJ i h2))
   refine⟨rfl,aq (fun h1=>?_) fun h1=>?_⟩
   ·have ew:i<t.length:=by omega
    refine⟨⟨by omega,h1⟩,ew,rfl,aq (fun h2=>no (fun c=>by rw[dJ] at h2;omega) ew) fun h2=>⟨rfl,aq (fun h3=>no (fun c=>by rw[dJ] at h3;omega) ew) fun h3=>?_⟩⟩
    rw[dJ] at h2 h3⊢
    refine⟨⟨rfl,rfl⟩,⟨t,i+1,⟨hs,hl,ew,fun j hj=>?_⟩,?_⟩,?_⟩
    ·by_cases e:j=i
     ·subst e;omega
     ·exact hd j (by omega)
    ·rw[u8n (by omega) (by omega),wrap_u64,wrap_u64,wrap_u64,i64_in ((i:Int)+1) (by omega)]
     congr 5
     ·show _=(dv t i*10+(aw t i-48))%18446744073709551616
      omega
     ·exact(aP t).symm
    ·show 20-(IntKind.i64.wrap (((i:Nat):Int)+1)).toNat<20-(((i:Nat):Int)).toNat
     rw[i64_in ((i:Int)+1) (by omega)];omega
   ·obtain rfl:i=t.length:=by omega
    refine⟨rfl,aq (fun h2=>?_) fun h2=>?_⟩
    ·refine hs.ends (A:=fun v=>v=V.tuple [.int .i64 (hP s),.int .i64 (fF s)]) ?_ rfl
     rw[if_pos (hs.len.1.mp (by omega)),wrap_u64,pa,pa]
     rw[show(0-dv t t.length%18446744073709551616)%18446744073709551616=(-dv t t.length)%18446744073709551616 by omega]
     exact Int.emod_bmod ..
    ·refine hs.ends (A:=fun v=>v=V.tuple [.int .i64 (hP s),.int .i64 (fF s)]) ?_ rfl
     rw[if_neg (fun c=>h2 (by have:=hs.len.1.mpr c;omega)),pa,pa]
     exact Int.emod_bmod ..
 ·exact h.elim
theorem I7:∀ {f:FuncId} {vs:List V} {σ:St} {k:ah},Fo f vs σ k→ag Tryz.prog f vs k σ:=fun h=>aH VW I6 h
theorem VX (h:Rb vs σ k):ag Tryz.prog 245 vs k σ:=by
 unfold Rb at h
 split at h
 ·rename_i s
  refine ag.cj (av (Go.Ev.Clean.str _) aM) (.tuple (bN (.int _ _) (bN (.int _ _) gn))) (F245.cf (live:=Bj) (call:=Fo) (n₀:=0) (σ:=Go.Ev.start) (fun h=>I7 h) rfl 1 (by kernel_rfl) Nat.lt_wfRel.wf (fun _ ss=>Za 30 ss) (Y9 s) ?_ ?_ ?_) h
  ·intro k ss hI
   cases k with
   | zero=>obtain⟨t,d,i,_,rfl⟩:=hI;exact gD (aG (aG (aG bG)))
   | succ k=>exact hI.elim
  ·rw[agS]
   rw[hL]
   have no:∀ {t:List UInt8},ml s t→((s.length:Nat):Int)>20→V.tuple [.int .i64 (0:Int),.int .i64 (7:Int)]=.tuple [.int .i64 (hP s),.int .i64 (fF s)]:=fun {t} h1 h2=>Bl (wc fun hp=>by
    obtain⟨n,hn,_,hd,_⟩:=h1.num hp
    have:=Uk hn hd;have:=h1.len.2.2;omega)
   have go0:ml s s→¬((s.length:Nat):Int)>20→Y9 s 0 [.val (.str s),.val (.int .i64 (0:Int)),.val (.int .i64 (0:Int)),.val (.int .i64 (0:Int))]:=fun h1 h2=>
    ⟨s,0,0,⟨h1,by omega,Nat.zero_le _,by omega,fun j hj=>absurd hj (Nat.not_lt_zero _)⟩,rfl⟩
   refine⟨rfl,aq (fun h0=>?_) fun h0=>?_⟩
   ·refine⟨⟨by omega,by omega⟩,rfl,aq (fun h1=>?_) fun h1=>?_⟩
    ·have hs:ml s (s.drop 1):=.inr (OL (fun c=>by subst c;exact absurd h0 (by decide)) h1)
     have:=hs.len
     refine⟨rfl,aq (fun h2=>no hs h2) fun h2=>⟨s.drop 1,1,0,⟨hs,by omega,Nat.zero_le _,?_,fun j hj=>absurd hj (Nat.not_lt_zero _)⟩,rfl⟩⟩
     simp;omega
    ·have hs:ml s s:=.inl ⟨rfl,Fq h1⟩
     exact⟨rfl,aq (fun h2=>no hs h2) fun h2=>go0 hs h2⟩
   ·have hs:ml s s:=.inl ⟨rfl,fun u e=>by subst e;simp at h0⟩
    exact⟨rfl,aq (fun h2=>no hs h2) fun h2=>go0 hs h2⟩
  ·intro k hk ss hI
   obtain rfl:k=0:=by omega
   obtain⟨t,d,i,⟨hs,hl,hi,y5,hd⟩,rfl⟩:=hI
   have hle:=hs.len
   rw[agT]
   rw[hL]
   have hb:i<t.length→bF s ((i+d:Nat):Int)=aw t i:=fun hi=>by
    show aw s (((i+d:Nat):Int)).toNat=_
    rw[dJ]
    rcases hs with ⟨rfl,_⟩ | hc
    ·rw[show d=0 by omega];rfl
    ·rw[hc] at y5⊢
     rw[show d=1 by simp at y5;omega];exact L4 _ _ _
   have hr:=iP t i
   have no:¬(48≤aw t i∧aw t i≤57)→i<t.length→V.tuple [.int .i64 (0:Int),.int .i64 (7:Int)]=.tuple [.int .i64 (hP s),.int .i64 (fF s)]:=fun h1 h2=>Bl (wc fun hp=>by
    obtain⟨n,hn,_,Zb,_⟩:=hs.num hp
    exact h1 (Zb.OJ i h2))
   refine⟨rfl,aq (fun h1=>?_) fun h1=>?_⟩
   ·have ew:i<t.length:=by omega
    rw[hb ew]
    refine⟨⟨by omega,h1⟩,rfl,aq (fun h2=>no (by omega) ew) fun h2=>⟨⟨by omega,h1⟩,rfl,aq (fun h3=>no (by omega) ew) fun h3=>⟨⟨by omega,h1⟩,⟨t,d,i+1,⟨hs,hl,ew,y5,fun j hj=>?_⟩,?_⟩,?_⟩⟩⟩
    ·by_cases e:j=i
     ·subst e;omega
     ·exact hd j (by omega)
    ·rw[i64_in (((i+d:Nat):Int)+1) (by omega),i64_in (aw t i) (by omega),show((i+d:Nat):Int)+1=((i+1+d:Nat):Int) by omega]
     congr 3
     ·show _=V.int .i64 (IntKind.i64.wrap (dv t i*10+(aw t i-48)))
      simp only[pa]
      rw[Int.bmod_mul_bmod,Int.bmod_add_bmod,Int.bmod_sub_bmod,show dv t i*10+aw t i-48=dv t i*10+(aw t i-48) by omega]
    ·show 30-(IntKind.i64.wrap (((i+d:Nat):Int)+1)).toNat<30-(((i+d:Nat):Int)).toNat
     rw[i64_in (((i+d:Nat):Int)+1) (by omega)];omega
   ·obtain rfl:i=t.length:=by omega
    refine⟨rfl,aq (fun h2=>?_) fun h2=>?_⟩
    ·refine hs.ends (A:=fun v=>v=V.tuple [.int .i64 (hP s),.int .i64 (fF s)]) ?_ rfl
     rw[if_pos (hle.1.mp (by omega)),pa,pa,pa,Int.zero_sub,Int.bmod_neg_bmod]
    ·refine hs.ends (A:=fun v=>v=V.tuple [.int .i64 (hP s),.int .i64 (fF s)]) ?_ rfl
     rw[if_neg (fun c=>h2 (by have:=hle.1.mpr c;omega))]
 ·exact h.elim
theorem I8:∀ {f:FuncId} {vs:List V} {σ:St} {k:ah},L1 f vs σ k→ag Tryz.prog f vs k σ:=fun h=>aH VX I7 h
end
end Go.Proofs.YtbajncpfmemdgaaGreatDoor
end
