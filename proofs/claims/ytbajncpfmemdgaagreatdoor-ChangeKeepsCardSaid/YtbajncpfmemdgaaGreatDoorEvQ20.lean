/- Proved: parts of the way: BEq20, BEq21, BD4. -/
import Derived.Test.YtbajncpfmemdgaaGreatDoorEvQ19
set_option linter.unusedVariables false
set_option linter.unusedSimpArgs false
section
namespace Go.Proofs.YtbajncpfmemdgaaGreatDoor
open Go Go.Ev
def GF:Nat→List Nat:=(fun _=>[])
theorem abp [Env] (A:Nat→List SV→Prop) (Q:V→St→Prop) (c:ak) (l:List aa):WE Tryz.prog 300 Tryz.f300 IL 0 GF A Q [ak.enc c,ae aa.enc 3 l] Go.Ev.start=
  ((∃NM:aa,[.agg (aa.cells c.f9)]=[aa.enc NM]∧gH NM∧af (V.beq (.agg (aa.cells c.f9)) (.agg (aa.cells c.f9))&&true) ((∃(U1:aa) (IM:Int),bn ⟨(St.new Go.Ev.start 0 (.cells 18 [] (an (ak.cells c) .leaf 0) true false)).heap,11⟩ [.agg (aa.cells c.f9),.int .i64 (bu NM)] [aa.enc U1,.int .i64 IM]∧(IM=0→Q (.tuple [.own 11 (1) 3,.int .i64 (0:Int)]) ⟨(St.new Go.Ev.start 11 (.row (1) (fun i=>aa.enc (([U1]).getD i default)) 3 false)).heap,12⟩)∧(IM≠0→Q (.tuple [.ai,.int .i64 IM]) ⟨Go.Ev.start.heap,11⟩))) False)):=by kernel_rfl
def U2 [Env] (vs:List V) (σ:St) (k:ah):Prop:=
 ∃(c:ak) (l:List aa),bn σ vs [ak.enc c,ae aa.enc 3 l]∧(fi c∧c.f0=1∧c.f7.length≤1000000∧0≤l.length∧l.length≤16∧∀t∈l,dz t∧bu t=0)∧(kE c (l.getD 0 default) (l.getD 1 default)=0→k (.tuple [.own σ.next (kT c (l.getD 0 default)).length 3,.int .i64 0]) ((void σ.next).new σ.next (.row (kT c (l.getD 0 default)).length (fun i=>aa.enc ((kT c (l.getD 0 default)).getD i default)) 3 false)))∧(kE c (l.getD 0 default) (l.getD 1 default)≠0→k (.tuple [.ai,.int .i64 (kE c (l.getD 0 default) (l.getD 1 default))]) (void σ.next))
def Dh [Env]:=kS 300 U2 IL
def zT:Nat→List Nat:=(fun _=>[])
abbrev NN [Env] (A:Nat→List SV→Prop) (Q:V→St→Prop) (c:ak) (l:List aa) (p0:Int):Prop:=
 (∃b0:List aj,[ae aj.enc 7 ((l.getD 0 default).f2)]=[ae aj.enc 7 b0]∧(0<b0.length∧b0.length≤1000)∧af (V.beq (.agg [.str c.f8.f0,.int .i64 c.f8.f1,.bool false,.int .i64 c.f8.f3.f0,.int .i64 c.f8.f3.f1,.int .u64 c.f8.f3.f2,.str c.f8.f3.f3]) (.agg [.str c.f8.f0,.int .i64 c.f8.f1,.bool false,.int .i64 c.f8.f3.f0,.int .i64 c.f8.f3.f1,.int .u64 c.f8.f3.f2,.str c.f8.f3.f3])&&true) (((b0.length=b0.length∧(b0.length+1)*72≤1099511627776)∧(∃(b1:aa) (b2:Int),bn ⟨(St.kill (St.new (St.new (St.new (St.new Go.Ev.start 0 (.cells 18 [] (an [.int .i64 c.f0,.str c.f1,.str c.f2,.str c.f3,.str c.f4,.str c.f5,.int .i64 c.f6,ae V.str 1 c.f7,.str c.f8.f0,.int .i64 c.f8.f1,.bool false,.int .i64 c.f8.f3.f0,.int .i64 c.f8.f3.f1,.int .u64 c.f8.f3.f2,.str c.f8.f3.f3,.str c.f9.f0,.int .i64 c.f9.f1,ae aj.enc 7 c.f9.f2] .leaf 0) true false)) 1 (.cells 3 [] (an [.str ((l.getD 0 default).f0),.int .i64 ((l.getD 0 default).f1),.own 8 (b0.length+1) 7] .leaf 0) true false)) 7 (.cells 7 [] (an [.str c.f8.f0,.int .i64 c.f8.f1,.bool false,.int .i64 c.f8.f3.f0,.int .i64 c.f8.f3.f1,.int .u64 c.f8.f3.f2,.str c.f8.f3.f3] .leaf 0) true false)) 8 (.row (b0.length+1) (dY b0.length (fun i=>aj.enc (b0.getD i default)) (fun _=>.agg [.str c.f8.f0,.int .i64 c.f8.f1,.bool false,.int .i64 c.f8.f3.f0,.int .i64 c.f8.f3.f1,.int .u64 c.f8.f3.f2,.str c.f8.f3.f3])) 7 false)) 11).heap,12⟩ [.agg [.str ((l.getD 0 default).f0),.int .i64 ((l.getD 0 default).f1),.own 8 (b0.length+1) 7],.int .i64 (p0:Int)] [aa.enc b1,.int .i64 b2]∧(b2=0→Q (.tuple [.own 12 (1) 3,.int .i64 (0:Int)]) ⟨(St.new Go.Ev.start 12 (.row (1) (fun i=>aa.enc (([b1]).getD i default)) 3 false)).heap,13⟩)∧(b2≠0→Q (.tuple [.ai,.int .i64 b2]) ⟨Go.Ev.start.heap,12⟩)))) False)
abbrev U3 [Env] (A:Nat→List SV→Prop) (Q:V→St→Prop) (c:ak) (l:List aa) (p0:aj):Prop:=
 (∃b0:List aj,[ae aj.enc 7 ((l.getD 0 default).f2)]=[ae aj.enc 7 b0]∧(0<b0.length∧b0.length≤1000)∧af (V.beq (.agg [.str c.f8.f0,.int .i64 c.f8.f1,.bool false,.int .i64 c.f8.f3.f0,.int .i64 c.f8.f3.f1,.int .u64 c.f8.f3.f2,.str c.f8.f3.f3]) (.agg [.str c.f8.f0,.int .i64 c.f8.f1,.bool false,.int .i64 c.f8.f3.f0,.int .i64 c.f8.f3.f1,.int .u64 c.f8.f3.f2,.str c.f8.f3.f3])&&true) (((b0.length=b0.length∧(b0.length+1)*72≤1099511627776)∧(∃(b1:aa) (b2:Int),bn ⟨(St.kill (St.new (St.new (St.new (St.new Go.Ev.start 0 (.cells 18 [] (an [.int .i64 c.f0,.str c.f1,.str c.f2,.str c.f3,.str c.f4,.str c.f5,.int .i64 c.f6,ae V.str 1 c.f7,.str c.f8.f0,.int .i64 c.f8.f1,.bool false,.int .i64 c.f8.f3.f0,.int .i64 c.f8.f3.f1,.int .u64 c.f8.f3.f2,.str c.f8.f3.f3,.str c.f9.f0,.int .i64 c.f9.f1,ae aj.enc 7 c.f9.f2] .leaf 0) true false)) 1 (.cells 3 [] (an [.str ((l.getD 0 default).f0),.int .i64 ((l.getD 0 default).f1),.own 8 (b0.length+1) 7] .leaf 0) true false)) 7 (.cells 7 [] (an [.str c.f8.f0,.int .i64 c.f8.f1,.bool false,.int .i64 c.f8.f3.f0,.int .i64 c.f8.f3.f1,.int .u64 c.f8.f3.f2,.str c.f8.f3.f3] .leaf 0) true false)) 8 (.row (b0.length+1) (dY b0.length (fun i=>aj.enc (b0.getD i default)) (fun _=>.agg [.str c.f8.f0,.int .i64 c.f8.f1,.bool false,.int .i64 c.f8.f3.f0,.int .i64 c.f8.f3.f1,.int .u64 c.f8.f3.f2,.str c.f8.f3.f3])) 7 false)) 11).heap,12⟩ [.agg [.str ((l.getD 0 default).f0),.int .i64 ((l.getD 0 default).f1),.own 8 (b0.length+1) 7],.int .i64 (bR p0)] [aa.enc b1,.int .i64 b2]∧(b2=0→Q (.tuple [.own 12 (1) 3,.int .i64 (0:Int)]) ⟨(St.new Go.Ev.start 12 (.row (1) (fun i=>aa.enc (([b1]).getD i default)) 3 false)).heap,13⟩)∧(b2≠0→Q (.tuple [.ai,.int .i64 b2]) ⟨Go.Ev.start.heap,12⟩)))) False)
abbrev U4 [Env] (A:Nat→List SV→Prop) (Q:V→St→Prop) (c:ak) (l:List aa) (p0:aj):Prop:=
 (∃b0:List aj,[ae aj.enc 7 ((l.getD 0 default).f2)]=[ae aj.enc 7 b0]∧(0<b0.length∧b0.length≤1000)∧af (V.beq (.agg [.str c.f8.f0,.int .i64 c.f8.f1,.bool true,.int .i64 c.f8.f3.f0,.int .i64 c.f8.f3.f1,.int .u64 c.f8.f3.f2,.str c.f8.f3.f3]) (.agg [.str c.f8.f0,.int .i64 c.f8.f1,.bool true,.int .i64 c.f8.f3.f0,.int .i64 c.f8.f3.f1,.int .u64 c.f8.f3.f2,.str c.f8.f3.f3])&&true) (((b0.length=b0.length∧(b0.length+1)*72≤1099511627776)∧(∃(b1:aa) (b2:Int),bn ⟨(St.kill (St.new (St.new (St.new (St.new Go.Ev.start 0 (.cells 18 [] (an [.int .i64 c.f0,.str c.f1,.str c.f2,.str c.f3,.str c.f4,.str c.f5,.int .i64 c.f6,ae V.str 1 c.f7,.str c.f8.f0,.int .i64 c.f8.f1,.bool true,.int .i64 c.f8.f3.f0,.int .i64 c.f8.f3.f1,.int .u64 c.f8.f3.f2,.str c.f8.f3.f3,.str c.f9.f0,.int .i64 c.f9.f1,ae aj.enc 7 c.f9.f2] .leaf 0) true false)) 1 (.cells 3 [] (an [.str ((l.getD 0 default).f0),.int .i64 ((l.getD 0 default).f1),.own 8 (b0.length+1) 7] .leaf 0) true false)) 7 (.cells 7 [] (an [.str c.f8.f0,.int .i64 c.f8.f1,.bool true,.int .i64 c.f8.f3.f0,.int .i64 c.f8.f3.f1,.int .u64 c.f8.f3.f2,.str c.f8.f3.f3] .leaf 0) true false)) 8 (.row (b0.length+1) (dY b0.length (fun i=>aj.enc (b0.getD i default)) (fun _=>.agg [.str c.f8.f0,.int .i64 c.f8.f1,.bool true,.int .i64 c.f8.f3.f0,.int .i64 c.f8.f3.f1,.int .u64 c.f8.f3.f2,.str c.f8.f3.f3])) 7 false)) 11).heap,12⟩ [.agg [.str ((l.getD 0 default).f0),.int .i64 ((l.getD 0 default).f1),.own 8 (b0.length+1) 7],.int .i64 (bR p0)] [aa.enc b1,.int .i64 b2]∧(b2=0→Q (.tuple [.own 12 (1) 3,.int .i64 (0:Int)]) ⟨(St.new Go.Ev.start 12 (.row (1) (fun i=>aa.enc (([b1]).getD i default)) 3 false)).heap,13⟩)∧(b2≠0→Q (.tuple [.ai,.int .i64 b2]) ⟨Go.Ev.start.heap,12⟩)))) False)
abbrev U5 [Env] (A:Nat→List SV→Prop) (Q:V→St→Prop) (c:ak) (l:List aa) (p0:Int):Prop:=
 (∃b0:List aj,[ae aj.enc 7 ((l.getD 0 default).f2)]=[ae aj.enc 7 b0]∧(0<b0.length∧b0.length≤1000)∧af (V.beq (.agg [.str c.f8.f0,.int .i64 c.f8.f1,.bool true,.int .i64 c.f8.f3.f0,.int .i64 c.f8.f3.f1,.int .u64 c.f8.f3.f2,.str c.f8.f3.f3]) (.agg [.str c.f8.f0,.int .i64 c.f8.f1,.bool true,.int .i64 c.f8.f3.f0,.int .i64 c.f8.f3.f1,.int .u64 c.f8.f3.f2,.str c.f8.f3.f3])&&true) (((b0.length=b0.length∧(b0.length+1)*72≤1099511627776)∧(∃(b1:aa) (b2:Int),bn ⟨(St.kill (St.new (St.new (St.new (St.new Go.Ev.start 0 (.cells 18 [] (an [.int .i64 c.f0,.str c.f1,.str c.f2,.str c.f3,.str c.f4,.str c.f5,.int .i64 c.f6,ae V.str 1 c.f7,.str c.f8.f0,.int .i64 c.f8.f1,.bool true,.int .i64 c.f8.f3.f0,.int .i64 c.f8.f3.f1,.int .u64 c.f8.f3.f2,.str c.f8.f3.f3,.str c.f9.f0,.int .i64 c.f9.f1,ae aj.enc 7 c.f9.f2] .leaf 0) true false)) 1 (.cells 3 [] (an [.str ((l.getD 0 default).f0),.int .i64 ((l.getD 0 default).f1),.own 8 (b0.length+1) 7] .leaf 0) true false)) 7 (.cells 7 [] (an [.str c.f8.f0,.int .i64 c.f8.f1,.bool true,.int .i64 c.f8.f3.f0,.int .i64 c.f8.f3.f1,.int .u64 c.f8.f3.f2,.str c.f8.f3.f3] .leaf 0) true false)) 8 (.row (b0.length+1) (dY b0.length (fun i=>aj.enc (b0.getD i default)) (fun _=>.agg [.str c.f8.f0,.int .i64 c.f8.f1,.bool true,.int .i64 c.f8.f3.f0,.int .i64 c.f8.f3.f1,.int .u64 c.f8.f3.f2,.str c.f8.f3.f3])) 7 false)) 11).heap,12⟩ [.agg [.str ((l.getD 0 default).f0),.int .i64 ((l.getD 0 default).f1),.own 8 (b0.length+1) 7],.int .i64 (p0:Int)] [aa.enc b1,.int .i64 b2]∧(b2=0→Q (.tuple [.own 12 (1) 3,.int .i64 (0:Int)]) ⟨(St.new Go.Ev.start 12 (.row (1) (fun i=>aa.enc (([b1]).getD i default)) 3 false)).heap,13⟩)∧(b2≠0→Q (.tuple [.ai,.int .i64 b2]) ⟨Go.Ev.start.heap,12⟩)))) False)
theorem Xb [Env] (A:Nat→List SV→Prop) (Q:V→St→Prop) (c:ak) (l:List aa):WE Tryz.prog 303 Tryz.f303 Dh 0 zT A Q [.agg [.int .i64 c.f0,.str c.f1,.str c.f2,.str c.f3,.str c.f4,.str c.f5,.int .i64 c.f6,ae V.str 1 c.f7,.str c.f8.f0,.int .i64 c.f8.f1,.bool true,.int .i64 c.f8.f3.f0,.int .i64 c.f8.f3.f1,.int .u64 c.f8.f3.f2,.str c.f8.f3.f3,.str c.f9.f0,.int .i64 c.f9.f1,ae aj.enc 7 c.f9.f2],ae aa.enc 3 l] Go.Ev.start=
  (((0≤(0:Int)∧(0:Int)<((l.length:Nat):Int))∧(∃Di:aj,[.agg [.str c.f8.f0,.int .i64 c.f8.f1,.bool true,.int .i64 c.f8.f3.f0,.int .i64 c.f8.f3.f1,.int .u64 c.f8.f3.f2,.str c.f8.f3.f3]]=[aj.enc Di]∧tT Di∧((.i64:IntKind)=.i64∧af (decide ((bR Di)≠(0:Int))) ((U4 A Q c l Di)) ((∃(NO:aa) (U6:List UInt8),[.agg (aa.cells (l.getD 0 default)),.str c.f8.f0]=[aa.enc NO,.str U6]∧NO.f2.length≤1000∧((.i64:IntKind)=.i64∧af (decide ((bw NO U6)≥(0:Int))) ((U5 A Q c l 12)) (((.i64:IntKind)=.i64∧af (decide ((((((l.getD 0 default).f2).length:Nat):Int))≥(8:Int))) ((U5 A Q c l 2)) ((U4 A Q c l Di))))))))))):=by kernel_rfl
theorem Xc [Env] (A:Nat→List SV→Prop) (Q:V→St→Prop) (c:ak) (l:List aa):WE Tryz.prog 303 Tryz.f303 Dh 0 zT A Q [.agg [.int .i64 c.f0,.str c.f1,.str c.f2,.str c.f3,.str c.f4,.str c.f5,.int .i64 c.f6,ae V.str 1 c.f7,.str c.f8.f0,.int .i64 c.f8.f1,.bool false,.int .i64 c.f8.f3.f0,.int .i64 c.f8.f3.f1,.int .u64 c.f8.f3.f2,.str c.f8.f3.f3,.str c.f9.f0,.int .i64 c.f9.f1,ae aj.enc 7 c.f9.f2],ae aa.enc 3 l] Go.Ev.start=
  (((0≤(0:Int)∧(0:Int)<((l.length:Nat):Int))∧(∃Dj:aj,[.agg [.str c.f8.f0,.int .i64 c.f8.f1,.bool false,.int .i64 c.f8.f3.f0,.int .i64 c.f8.f3.f1,.int .u64 c.f8.f3.f2,.str c.f8.f3.f3]]=[aj.enc Dj]∧tT Dj∧((.i64:IntKind)=.i64∧af (decide ((bR Dj)≠(0:Int))) ((U3 A Q c l Dj)) ((∃(NP:aa) (U7:List UInt8),[.agg (aa.cells (l.getD 0 default)),.str c.f8.f0]=[aa.enc NP,.str U7]∧NP.f2.length≤1000∧((.i64:IntKind)=.i64∧af (decide ((bw NP U7)≥(0:Int))) ((NN A Q c l 12)) (((.i64:IntKind)=.i64∧af (decide ((((((l.getD 0 default).f2).length:Nat):Int))≥(8:Int))) ((NN A Q c l 2)) (((.i64:IntKind)=.i64∧af (decide (c.f8.f3.f0=(0:Int))) ((NN A Q c l 11)) ((U3 A Q c l Dj))))))))))))):=by kernel_rfl
def U8 [Env] (vs:List V) (σ:St) (k:ah):Prop:=
 ∃(c:ak) (l:List aa),bn σ vs [ak.enc c,ae aa.enc 3 l]∧(fi c∧c.f0=2∧c.f7.length≤1000000∧1≤l.length∧l.length≤16∧∀t∈l,dz t∧bu t=0)∧(kE c (l.getD 0 default) (l.getD 1 default)=0→k (.tuple [.own σ.next (kT c (l.getD 0 default)).length 3,.int .i64 0]) ((void σ.next).new σ.next (.row (kT c (l.getD 0 default)).length (fun i=>aa.enc ((kT c (l.getD 0 default)).getD i default)) 3 false)))∧(kE c (l.getD 0 default) (l.getD 1 default)≠0→k (.tuple [.ai,.int .i64 (kE c (l.getD 0 default) (l.getD 1 default))]) (void σ.next))
def IP [Env]:=kS 303 U8 Dh
def GG:Nat→List Nat:=(fun _=>[])
theorem abq [Env] (A:Nat→List SV→Prop) (Q:V→St→Prop) (c:ak) (l:List aa):WE Tryz.prog 306 Tryz.f306 IP 0 GG A Q [ak.enc c,ae aa.enc 3 l] Go.Ev.start=
  (((0≤(0:Int)∧(0:Int)<((l.length:Nat):Int))∧(∃(Dk:aa) (IQ:List UInt8),[.agg (aa.cells (l.getD 0 default)),.str c.f5]=[aa.enc Dk,.str IQ]∧Dk.f2.length≤1000∧((.i64:IntKind)=.i64∧af (decide ((bw Dk IQ)<((l.getD 0 default).f1))) (Q (.tuple [.ai,.int .i64 (10:Int)]) ⟨(St.new (St.new Go.Ev.start 0 (.cells 18 [] (an (ak.cells c) .leaf 0) true false)) 1 (.cells 3 [] (an (aa.cells (l.getD 0 default)) .leaf 0) true false)).heap,2⟩) ((∃zU:List aj,[ae aj.enc 7 ((l.getD 0 default).f2)]=[ae aj.enc 7 zU]∧(0<zU.length∧zU.length≤1000)∧(∃(xm:List aj) (n193:Nat),(zU.length=xm.length∧(bw Dk IQ)=n193∧(IntKind.i64.wrap ((bw Dk IQ)+(1:Int)))=(n193:Int)+1)∧(⟨(St.new (St.new (St.new Go.Ev.start 0 (.cells 18 [] (an (ak.cells c) .leaf 0) true false)) 1 (.cells 3 [] (an (aa.cells (l.getD 0 default)) .leaf 0) true false)) 2 (.row zU.length (fun i=>aj.enc (zU.getD i default)) 7 false)).heap,3⟩:St).heap.get 2=some (.row xm.length (fun j=>aj.enc (xm.getD j default)) 7 false)∧(0<n193∧n193<xm.length∧xm.length≤8)∧∀n194 U9,bE n194 U9 (bj (fun j=>decide (j≠n193)) (fun j=>xm.getD j default) xm.length)→(∃(Va:aa) (IU:Int),bn ⟨(St.new (St.new (St.new Go.Ev.start 0 (.cells 18 [] (an (ak.cells c) .leaf 0) true false)) 1 (.cells 3 [] (an [.str ((l.getD 0 default).f0),.int .i64 ((l.getD 0 default).f1),.own 3 n194 7] .leaf 0) true false)) 3 (.row n194 U9 7 false)).heap,4⟩ [.agg [.str ((l.getD 0 default).f0),.int .i64 ((l.getD 0 default).f1),.own 3 n194 7],.int .i64 (0:Int)] [aa.enc Va,.int .i64 IU]∧(IU=0→Q (.tuple [.own 4 (1) 3,.int .i64 (0:Int)]) ⟨(St.new Go.Ev.start 4 (.row (1) (fun i=>aa.enc (([Va]).getD i default)) 3 false)).heap,5⟩)∧(IU≠0→Q (.tuple [.ai,.int .i64 IU]) ⟨Go.Ev.start.heap,4⟩))))))))):=by kernel_rfl
def Vb [Env] (vs:List V) (σ:St) (k:ah):Prop:=
 ∃(c:ak) (l:List aa),bn σ vs [ak.enc c,ae aa.enc 3 l]∧(fi c∧c.f0=3∧c.f7.length≤1000000∧1≤l.length∧l.length≤16∧∀t∈l,dz t∧bu t=0)∧(kE c (l.getD 0 default) (l.getD 1 default)=0→k (.tuple [.own σ.next (kT c (l.getD 0 default)).length 3,.int .i64 0]) ((void σ.next).new σ.next (.row (kT c (l.getD 0 default)).length (fun i=>aa.enc ((kT c (l.getD 0 default)).getD i default)) 3 false)))∧(kE c (l.getD 0 default) (l.getD 1 default)≠0→k (.tuple [.ai,.int .i64 (kE c (l.getD 0 default) (l.getD 1 default))]) (void σ.next))
def IV [Env]:=kS 306 Vb IP
def GH:Nat→List Nat:=(fun _=>[])
abbrev NQ [Env] (A:Nat→List SV→Prop) (Q:V→St→Prop) (c:ak) (l:List aa):Prop:=
 (∃b0:List aj,[ae aj.enc 7 ((l.getD 0 default).f2)]=[ae aj.enc 7 b0]∧(0<b0.length∧b0.length≤1000)∧af (V.beq (.str c.f3) (.str c.f3)&&true) ((∃(b1:aa) (b2:Int),bn ⟨(St.new (St.new (St.new Go.Ev.start 0 (.cells 18 [] (an (ak.cells c) .leaf 0) true false)) 1 (.cells 3 [] (an [.str c.f3,.int .i64 ((l.getD 0 default).f1),.own 32 b0.length 7] .leaf 0) true false)) 32 (.row b0.length (fun i=>aj.enc (b0.getD i default)) 7 false)).heap,33⟩ [.agg [.str c.f3,.int .i64 ((l.getD 0 default).f1),.own 32 b0.length 7],.int .i64 (aD c.f3)] [aa.enc b1,.int .i64 b2]∧(b2=0→Q (.tuple [.own 33 (1) 3,.int .i64 (0:Int)]) ⟨(St.new Go.Ev.start 33 (.row (1) (fun i=>aa.enc (([b1]).getD i default)) 3 false)).heap,34⟩)∧(b2≠0→Q (.tuple [.ai,.int .i64 b2]) ⟨Go.Ev.start.heap,33⟩))) False)
abbrev NR [Env] (A:Nat→List SV→Prop) (Q:V→St→Prop) (c:ak) (l:List aa):Prop:=
 (∃b0:List aj,[ae aj.enc 7 ((l.getD 0 default).f2)]=[ae aj.enc 7 b0]∧(0<b0.length∧b0.length≤1000)∧af (V.beq (.str c.f3) (.str c.f3)&&true) ((∃(b1:aa) (b2:Int),bn ⟨(St.new (St.new (St.new Go.Ev.start 0 (.cells 18 [] (an (ak.cells c) .leaf 0) true false)) 1 (.cells 3 [] (an [.str c.f3,.int .i64 ((l.getD 0 default).f1),.own 32 b0.length 7] .leaf 0) true false)) 32 (.row b0.length (fun i=>aj.enc (b0.getD i default)) 7 false)).heap,33⟩ [.agg [.str c.f3,.int .i64 ((l.getD 0 default).f1),.own 32 b0.length 7],.int .i64 (11:Int)] [aa.enc b1,.int .i64 b2]∧(b2=0→Q (.tuple [.own 33 (1) 3,.int .i64 (0:Int)]) ⟨(St.new Go.Ev.start 33 (.row (1) (fun i=>aa.enc (([b1]).getD i default)) 3 false)).heap,34⟩)∧(b2≠0→Q (.tuple [.ai,.int .i64 b2]) ⟨Go.Ev.start.heap,33⟩))) False)
theorem abr [Env] (A:Nat→List SV→Prop) (Q:V→St→Prop) (c:ak) (l:List aa):WE Tryz.prog 314 Tryz.f314 IV 0 GH A Q [ak.enc c,ae aa.enc 3 l] Go.Ev.start=
  (af (decide (c.f1=c.f2)) (Q (.tuple [.ai,.int .i64 (12:Int)]) ⟨(St.new Go.Ev.start 0 (.cells 18 [] (an (ak.cells c) .leaf 0) true false)).heap,1⟩) (((0≤(0:Int)∧(0:Int)<((l.length:Nat):Int))∧((.i64:IntKind)=.i64∧af (decide ((aD c.f3)=(0:Int))) (((0≤(1:Int)∧(1:Int)<((l.length:Nat):Int))∧((.i64:IntKind)=.i64∧af (decide (((l.getD 0 default).f1)≠((l.getD 1 default).f1))) ((NR A Q c l)) (((0≤(1:Int)∧(1:Int)<((l.length:Nat):Int))∧(∃NS Vc:List aj,[ae aj.enc 7 ((l.getD 0 default).f2),ae aj.enc 7 ((l.getD 1 default).f2)]=[ae aj.enc 7 NS,ae aj.enc 7 Vc]∧NS.length≤1000000∧∀Vd:Bool,(Vd=true↔NS=Vc)→af ((!Vd)) ((NR A Q c l)) ((NQ A Q c l)))))))) ((NQ A Q c l)))))):=by kernel_rfl
def Ve [Env] (vs:List V) (σ:St) (k:ah):Prop:=
 ∃(c:ak) (l:List aa),bn σ vs [ak.enc c,ae aa.enc 3 l]∧(fi c∧c.f0=6∧c.f7.length≤1000000∧2≤l.length∧l.length≤16∧∀t∈l,dz t∧bu t=0)∧(kE c (l.getD 0 default) (l.getD 1 default)=0→k (.tuple [.own σ.next (kT c (l.getD 0 default)).length 3,.int .i64 0]) ((void σ.next).new σ.next (.row (kT c (l.getD 0 default)).length (fun i=>aa.enc ((kT c (l.getD 0 default)).getD i default)) 3 false)))∧(kE c (l.getD 0 default) (l.getD 1 default)≠0→k (.tuple [.ai,.int .i64 (kE c (l.getD 0 default) (l.getD 1 default))]) (void σ.next))
def jM [Env]:=kS 314 Ve IV
end Go.Proofs.YtbajncpfmemdgaaGreatDoor
end
section
namespace Go.Proofs.YtbajncpfmemdgaaGreatDoor
open Go Go.Ev
def fG:Nat→List Nat:=(fun i=>match i with | 0=>[2,6,35,36,37] | 1=>[2,6,10,69,70,71] | 2=>[2,6,10,11,12,13,69,70,71,82,83] | _=>[])
theorem abt [Env] (A:Nat→List SV→Prop) (Q:V→St→Prop) (c:ak) (l:List aa):WE Tryz.prog 311 Tryz.f311 jM 0 fG A Q [ak.enc c,ae aa.enc 3 l] Go.Ev.start=
  (((0≤(0:Int)∧(0:Int)<((l.length:Nat):Int))∧af (V.beq (.str c.f4) (.str c.f4)&&true) ((∃IW:List Int,bn ⟨(St.new (St.new (St.new Go.Ev.start 0 (.cells 18 [] (an (ak.cells c) .leaf 0) true false)) 1 (.cells 3 [] (an (aa.cells (l.getD 0 default)) .leaf 0) true false)) 8 (.cells 2 [] (an [.int .i64 (aD c.f3),.int .i64 (aD c.f4)] .leaf 0) true false)).heap,11⟩ [.slice 8 0 (2) (2) true 1] [ae (V.int .i64) 1 IW]∧IW.length≤1000∧((.i64:IntKind)=.i64∧af (decide ((Py IW)≠(0:Int))) (Q (.tuple [.ai,.int .i64 (Py IW)]) ⟨(St.new (St.new (St.new Go.Ev.start 0 (.cells 18 [] (an (ak.cells c) .leaf 0) true false)) 1 (.cells 3 [] (an (aa.cells (l.getD 0 default)) .leaf 0) true false)) 8 (.cells 2 [] (an [.int .i64 (aD c.f3),.int .i64 (aD c.f4)] .leaf 0) true false)).heap,11⟩) (af (decide (c.f3=c.f4)) (Q (.tuple [.ai,.int .i64 (12:Int)]) ⟨(St.new (St.new (St.new Go.Ev.start 0 (.cells 18 [] (an (ak.cells c) .leaf 0) true false)) 1 (.cells 3 [] (an (aa.cells (l.getD 0 default)) .leaf 0) true false)) 8 (.cells 2 [] (an [.int .i64 (aD c.f3),.int .i64 (aD c.f4)] .leaf 0) true false)).heap,11⟩) (A 0 [.box (ak.cells c),.box (aa.cells (l.getD 0 default)),.val (ae V.str 1 c.f7),.val (.int .i64 (((c.f7.length:Nat):Int))),.val (.int .i64 (0:Int))]))))) False)):=by kernel_rfl
theorem Xd [Env] (A:Nat→List SV→Prop) (Q:V→St→Prop) (c:ak) (t:aa) (m i:Int):WL Tryz.prog 311 Tryz.f311 jM 0 fG A Q 0 [.box (ak.cells c),.box (aa.cells t),.val (ae V.str 1 c.f7),.val (.int .i64 m),.val (.int .i64 i)]=
  (((.i64:IntKind)=.i64∧af (decide (i<m)) (((0≤i∧i<((c.f7.length:Nat):Int))∧(∃(NT:aa) (Vf:List UInt8),[.agg (aa.cells t),.str ((c.f7.getD i.toNat default))]=[aa.enc NT,.str Vf]∧NT.f2.length≤1000∧af (V.beq (.int .i64 t.f1) (.int .i64 t.f1)&&true) (((.i64:IntKind)=.i64∧af (decide ((bw NT Vf)<t.f1)) (Q (.tuple [.ai,.int .i64 (10:Int)]) ⟨(St.new (St.new Go.Ev.start 0 (.cells 18 [] (an (ak.cells c) .leaf 0) false false)) 1 (.cells 3 [] (an (aa.cells t) .leaf 0) false false)).heap,16⟩) ((∃Vg:Nat→List UInt8,(fun i=>V.str (c.f7.getD i default))=(fun i=>V.str (Vg i))∧c.f7.length≤1000000∧((.i64:IntKind)=.i64∧af (decide ((cd ((c.f7.getD i.toNat default)) Vg c.f7.length)≠i)) (Q (.tuple [.ai,.int .i64 (10:Int)]) ⟨(St.new (St.new Go.Ev.start 0 (.cells 18 [] (an (ak.cells c) .leaf 0) false false)) 1 (.cells 3 [] (an (aa.cells t) .leaf 0) false false)).heap,16⟩) (A 0 [.box (ak.cells c),.box (aa.cells t),.val (ae V.str 1 c.f7),.val (.int .i64 m),.val (.int .i64 (IntKind.i64.wrap (i+(1:Int))))])))))) False))) (A 1 [.box (ak.cells c),.box (aa.cells t),.nest (.sl (2) (2) 3 true) [.val (.str c.f3),.val (.int .i64 t.f1),.val (.ai),.val (.str c.f4),.val (.int .i64 t.f1),.val (.ai)],.val (ae aj.enc 7 t.f2),.val (.int .i64 (((t.f2.length:Nat):Int))),.val (.int .i64 (0:Int))]))):=by kernel_rfl
theorem Xe [Env] (A:Nat→List SV→Prop) (Q:V→St→Prop) (c:ak) (t:aa) (m i:Int):WL Tryz.prog 311 Tryz.f311 jM 0 fG A Q 1 [.box (ak.cells c),.box (aa.cells t),.nest (.sl (2) (2) 3 true) [.val (.str c.f3),.val (.int .i64 t.f1),.val (.ai),.val (.str c.f4),.val (.int .i64 t.f1),.val (.ai)],.val (ae aj.enc 7 t.f2),.val (.int .i64 m),.val (.int .i64 i)]=
  (((.i64:IntKind)=.i64∧af (decide (i<m)) (((0≤i∧i<((t.f2.length:Nat):Int))∧(∃Vh:Nat→List UInt8,(fun i=>V.str (c.f7.getD i default))=(fun i=>V.str (Vh i))∧c.f7.length≤1000000∧A 2 [.box (ak.cells c),.box (aa.cells t),.nest (.sl (2) (2) 3 true) [.val (.str c.f3),.val (.int .i64 t.f1),.val (.ai),.val (.str c.f4),.val (.int .i64 t.f1),.val (.ai)],.val (.int .i64 i),.box (aj.cells (t.f2.getD i.toNat default)),.val (.bool (decide (0≤cd ((t.f2.getD i.toNat default).f0) Vh c.f7.length))),.val (ae aj.enc 7 t.f2),.val (.int .i64 m),.val (.int .i64 i),.val (.int .i64 (2:Int)),.val (.int .i64 (0:Int))]))) (Q (.tuple [.slice 2 0 (2) (2) true 3,.int .i64 (0:Int)]) ⟨(St.new (St.new (St.new Go.Ev.start 0 (.cells 18 [] (an (ak.cells c) .leaf 0) false false)) 1 (.cells 3 [] (an (aa.cells t) .leaf 0) false false)) 2 (.cells 6 [] (an [.str c.f3,.int .i64 t.f1,.ai,.str c.f4,.int .i64 t.f1,.ai] .leaf 0) false false)).heap,3⟩))):=by kernel_rfl
theorem Xf [Env] (A:Nat→List SV→Prop) (Q:V→St→Prop) (c:ak) (t:aa) (m i:Int) (a b:Nat) (f g:Nat→V):WL Tryz.prog 311 Tryz.f311 jM 0 fG A Q 1 [.box (ak.cells c),.box (aa.cells t),.nest (.sl (2) (2) 3 true) [.val (.str c.f3),.val (.int .i64 t.f1),.row a f 7,.val (.str c.f4),.val (.int .i64 t.f1),.row b g 7],.val (ae aj.enc 7 t.f2),.val (.int .i64 m),.val (.int .i64 i)]=
  (((.i64:IntKind)=.i64∧af (decide (i<m)) (((0≤i∧i<((t.f2.length:Nat):Int))∧(∃Vi:Nat→List UInt8,(fun i=>V.str (c.f7.getD i default))=(fun i=>V.str (Vi i))∧c.f7.length≤1000000∧((a=a∧7=7)∧((b=b∧7=7)∧A 2 [.box (ak.cells c),.box (aa.cells t),.nest (.sl (2) (2) 3 true) [.val (.str c.f3),.val (.int .i64 t.f1),.row a f 7,.val (.str c.f4),.val (.int .i64 t.f1),.row b g 7],.val (.int .i64 i),.box (aj.cells (t.f2.getD i.toNat default)),.val (.bool (decide (0≤cd ((t.f2.getD i.toNat default).f0) Vi c.f7.length))),.val (ae aj.enc 7 t.f2),.val (.int .i64 m),.val (.int .i64 i),.val (.int .i64 (2:Int)),.val (.int .i64 (0:Int))]))))) (Q (.tuple [.slice 2 0 (2) (2) true 3,.int .i64 (0:Int)]) ⟨(St.new (St.new (St.new (St.new (St.new Go.Ev.start 0 (.cells 18 [] (an (ak.cells c) .leaf 0) false false)) 1 (.cells 3 [] (an (aa.cells t) .leaf 0) false false)) 2 (.cells 6 [] (an [.str c.f3,.int .i64 t.f1,.own 3 a 7,.str c.f4,.int .i64 t.f1,.own 4 b 7] .leaf 0) false false)) 3 (.row a f 7 false)) 4 (.row b g 7 false)).heap,5⟩))):=by kernel_rfl
abbrev NU [Env] (A:Nat→List SV→Prop) (Q:V→St→Prop) (c:ak) (t:aa) (x:aj) (u m i:Int):Prop:=
 (((1:Nat)=1∧(1:Nat)=1∧1*7=1*7)∧A 2 [.box (ak.cells c),.box (aa.cells t),.nest (.sl (2) (2) 3 true) [.val (.str c.f3),.val (.int .i64 t.f1),.row 1 (fun _=>.agg (aj.cells x)) 7,.val (.str c.f4),.val (.int .i64 t.f1),.val (.ai)],.val (.int .i64 u),.box (aj.cells x),.val (.bool false),.val (ae aj.enc 7 t.f2),.val (.int .i64 m),.val (.int .i64 i),.val (.int .i64 (2:Int)),.val (.int .i64 (1:Int))])
abbrev NV [Env] (A:Nat→List SV→Prop) (Q:V→St→Prop) (c:ak) (t:aa) (x:aj) (u m i:Int):Prop:=
 (((1:Nat)=1∧(1:Nat)=1∧1*7=1*7)∧A 2 [.box (ak.cells c),.box (aa.cells t),.nest (.sl (2) (2) 3 true) [.val (.str c.f3),.val (.int .i64 t.f1),.row 1 (fun _=>.agg (aj.cells x)) 7,.val (.str c.f4),.val (.int .i64 t.f1),.val (.ai)],.val (.int .i64 u),.box (aj.cells x),.val (.bool true),.val (ae aj.enc 7 t.f2),.val (.int .i64 m),.val (.int .i64 i),.val (.int .i64 (2:Int)),.val (.int .i64 (1:Int))])
theorem QV [Env] (A:Nat→List SV→Prop) (Q:V→St→Prop) (c:ak) (t:aa) (x:aj) (u m i:Int):WL Tryz.prog 311 Tryz.f311 jM 0 fG A Q 2 [.box (ak.cells c),.box (aa.cells t),.nest (.sl (2) (2) 3 true) [.val (.str c.f3),.val (.int .i64 t.f1),.val (.ai),.val (.str c.f4),.val (.int .i64 t.f1),.val (.ai)],.val (.int .i64 u),.box (aj.cells x),.val (.bool true),.val (ae aj.enc 7 t.f2),.val (.int .i64 m),.val (.int .i64 i),.val (.int .i64 (2:Int)),.val (.int .i64 (0:Int))]=
  (((.i64:IntKind)=.i64∧((.i64:IntKind)=.i64∧af (decide (u<t.f1)) ((NV A Q c t x u m i)) (((.i64:IntKind)=.i64∧af ((true==true)) ((NV A Q c t x u m i)) (A 2 [.box (ak.cells c),.box (aa.cells t),.nest (.sl (2) (2) 3 true) [.val (.str c.f3),.val (.int .i64 t.f1),.val (.ai),.val (.str c.f4),.val (.int .i64 t.f1),.val (.ai)],.val (.int .i64 u),.box (aj.cells x),.val (.bool true),.val (ae aj.enc 7 t.f2),.val (.int .i64 m),.val (.int .i64 i),.val (.int .i64 (2:Int)),.val (.int .i64 (1:Int))])))))):=by kernel_rfl
theorem QW [Env] (A:Nat→List SV→Prop) (Q:V→St→Prop) (c:ak) (t:aa) (x:aj) (u m i:Int):WL Tryz.prog 311 Tryz.f311 jM 0 fG A Q 2 [.box (ak.cells c),.box (aa.cells t),.nest (.sl (2) (2) 3 true) [.val (.str c.f3),.val (.int .i64 t.f1),.val (.ai),.val (.str c.f4),.val (.int .i64 t.f1),.val (.ai)],.val (.int .i64 u),.box (aj.cells x),.val (.bool false),.val (ae aj.enc 7 t.f2),.val (.int .i64 m),.val (.int .i64 i),.val (.int .i64 (2:Int)),.val (.int .i64 (0:Int))]=
  (((.i64:IntKind)=.i64∧((.i64:IntKind)=.i64∧af (decide (u<t.f1)) ((NU A Q c t x u m i)) (((.i64:IntKind)=.i64∧af ((false==true)) ((NU A Q c t x u m i)) (A 2 [.box (ak.cells c),.box (aa.cells t),.nest (.sl (2) (2) 3 true) [.val (.str c.f3),.val (.int .i64 t.f1),.val (.ai),.val (.str c.f4),.val (.int .i64 t.f1),.val (.ai)],.val (.int .i64 u),.box (aj.cells x),.val (.bool false),.val (ae aj.enc 7 t.f2),.val (.int .i64 m),.val (.int .i64 i),.val (.int .i64 (2:Int)),.val (.int .i64 (1:Int))])))))):=by kernel_rfl
abbrev NW [Env] (A:Nat→List SV→Prop) (Q:V→St→Prop) (c:ak) (t:aa) (x:aj) (u m i:Int) (a:Nat) (f:Nat→V):Prop:=
 ((a=a∧7=7)∧(((1:Nat)=1∧(1:Nat)=1∧1*7=1*7)∧A 2 [.box (ak.cells c),.box (aa.cells t),.nest (.sl (2) (2) 3 true) [.val (.str c.f3),.val (.int .i64 t.f1),.row a f 7,.val (.str c.f4),.val (.int .i64 t.f1),.row 1 (fun _=>.agg (aj.cells x)) 7],.val (.int .i64 u),.box (aj.cells x),.val (.bool false),.val (ae aj.enc 7 t.f2),.val (.int .i64 m),.val (.int .i64 i),.val (.int .i64 (2:Int)),.val (.int .i64 (2:Int))]))
abbrev NX [Env] (A:Nat→List SV→Prop) (Q:V→St→Prop) (c:ak) (t:aa) (x:aj) (u m i:Int) (a:Nat) (f:Nat→V):Prop:=
 ((a=a∧7=7)∧(((1:Nat)=1∧(1:Nat)=1∧1*7=1*7)∧A 2 [.box (ak.cells c),.box (aa.cells t),.nest (.sl (2) (2) 3 true) [.val (.str c.f3),.val (.int .i64 t.f1),.row a f 7,.val (.str c.f4),.val (.int .i64 t.f1),.row 1 (fun _=>.agg (aj.cells x)) 7],.val (.int .i64 u),.box (aj.cells x),.val (.bool true),.val (ae aj.enc 7 t.f2),.val (.int .i64 m),.val (.int .i64 i),.val (.int .i64 (2:Int)),.val (.int .i64 (2:Int))]))
theorem QX [Env] (A:Nat→List SV→Prop) (Q:V→St→Prop) (c:ak) (t:aa) (x:aj) (u m i:Int) (a:Nat) (f:Nat→V):WL Tryz.prog 311 Tryz.f311 jM 0 fG A Q 2 [.box (ak.cells c),.box (aa.cells t),.nest (.sl (2) (2) 3 true) [.val (.str c.f3),.val (.int .i64 t.f1),.row a f 7,.val (.str c.f4),.val (.int .i64 t.f1),.val (.ai)],.val (.int .i64 u),.box (aj.cells x),.val (.bool true),.val (ae aj.enc 7 t.f2),.val (.int .i64 m),.val (.int .i64 i),.val (.int .i64 (2:Int)),.val (.int .i64 (1:Int))]=
  (((.i64:IntKind)=.i64∧((.i64:IntKind)=.i64∧af (decide (u<t.f1)) ((NX A Q c t x u m i a f)) (((.i64:IntKind)=.i64∧af ((true==false)) ((NX A Q c t x u m i a f)) (((a=a∧7=7)∧A 2 [.box (ak.cells c),.box (aa.cells t),.nest (.sl (2) (2) 3 true) [.val (.str c.f3),.val (.int .i64 t.f1),.row a f 7,.val (.str c.f4),.val (.int .i64 t.f1),.val (.ai)],.val (.int .i64 u),.box (aj.cells x),.val (.bool true),.val (ae aj.enc 7 t.f2),.val (.int .i64 m),.val (.int .i64 i),.val (.int .i64 (2:Int)),.val (.int .i64 (2:Int))]))))))):=by kernel_rfl
theorem QY [Env] (A:Nat→List SV→Prop) (Q:V→St→Prop) (c:ak) (t:aa) (x:aj) (u m i:Int) (a:Nat) (f:Nat→V):WL Tryz.prog 311 Tryz.f311 jM 0 fG A Q 2 [.box (ak.cells c),.box (aa.cells t),.nest (.sl (2) (2) 3 true) [.val (.str c.f3),.val (.int .i64 t.f1),.row a f 7,.val (.str c.f4),.val (.int .i64 t.f1),.val (.ai)],.val (.int .i64 u),.box (aj.cells x),.val (.bool false),.val (ae aj.enc 7 t.f2),.val (.int .i64 m),.val (.int .i64 i),.val (.int .i64 (2:Int)),.val (.int .i64 (1:Int))]=
  (((.i64:IntKind)=.i64∧((.i64:IntKind)=.i64∧af (decide (u<t.f1)) ((NW A Q c t x u m i a f)) (((.i64:IntKind)=.i64∧af ((false==false)) ((NW A Q c t x u m i a f)) (((a=a∧7=7)∧A 2 [.box (ak.cells c),.box (aa.cells t),.nest (.sl (2) (2) 3 true) [.val (.str c.f3),.val (.int .i64 t.f1),.row a f 7,.val (.str c.f4),.val (.int .i64 t.f1),.val (.ai)],.val (.int .i64 u),.box (aj.cells x),.val (.bool false),.val (ae aj.enc 7 t.f2),.val (.int .i64 m),.val (.int .i64 i),.val (.int .i64 (2:Int)),.val (.int .i64 (2:Int))]))))))):=by kernel_rfl
abbrev NY [Env] (A:Nat→List SV→Prop) (Q:V→St→Prop) (c:ak) (t:aa) (x:aj) (u m i:Int) (a b:Nat) (f g:Nat→V):Prop:=
 ((a=a∧(a+1)*72≤1099511627776)∧(((a+1)=(a+1)∧7=7)∧((b=b∧7=7)∧A 2 [.box (ak.cells c),.box (aa.cells t),.nest (.sl (2) (2) 3 true) [.val (.str c.f3),.val (.int .i64 t.f1),.row (a+1) (dY a f (fun _=>.agg (aj.cells x))) 7,.val (.str c.f4),.val (.int .i64 t.f1),.row b g 7],.val (.int .i64 u),.box (aj.cells x),.val (.bool false),.val (ae aj.enc 7 t.f2),.val (.int .i64 m),.val (.int .i64 i),.val (.int .i64 (2:Int)),.val (.int .i64 (1:Int))])))
abbrev NZ [Env] (A:Nat→List SV→Prop) (Q:V→St→Prop) (c:ak) (t:aa) (x:aj) (u m i:Int) (a b:Nat) (f g:Nat→V):Prop:=
 ((b=b∧(b+1)*72≤1099511627776)∧((a=a∧7=7)∧(((b+1)=(b+1)∧7=7)∧A 2 [.box (ak.cells c),.box (aa.cells t),.nest (.sl (2) (2) 3 true) [.val (.str c.f3),.val (.int .i64 t.f1),.row a f 7,.val (.str c.f4),.val (.int .i64 t.f1),.row (b+1) (dY b g (fun _=>.agg (aj.cells x))) 7],.val (.int .i64 u),.box (aj.cells x),.val (.bool false),.val (ae aj.enc 7 t.f2),.val (.int .i64 m),.val (.int .i64 i),.val (.int .i64 (2:Int)),.val (.int .i64 (2:Int))])))
abbrev N0 [Env] (A:Nat→List SV→Prop) (Q:V→St→Prop) (c:ak) (t:aa) (x:aj) (u m i:Int) (a b:Nat) (f g:Nat→V):Prop:=
 ((a=a∧(a+1)*72≤1099511627776)∧(((a+1)=(a+1)∧7=7)∧((b=b∧7=7)∧A 2 [.box (ak.cells c),.box (aa.cells t),.nest (.sl (2) (2) 3 true) [.val (.str c.f3),.val (.int .i64 t.f1),.row (a+1) (dY a f (fun _=>.agg (aj.cells x))) 7,.val (.str c.f4),.val (.int .i64 t.f1),.row b g 7],.val (.int .i64 u),.box (aj.cells x),.val (.bool true),.val (ae aj.enc 7 t.f2),.val (.int .i64 m),.val (.int .i64 i),.val (.int .i64 (2:Int)),.val (.int .i64 (1:Int))])))
abbrev N1 [Env] (A:Nat→List SV→Prop) (Q:V→St→Prop) (c:ak) (t:aa) (x:aj) (u m i:Int) (a b:Nat) (f g:Nat→V):Prop:=
 ((b=b∧(b+1)*72≤1099511627776)∧((a=a∧7=7)∧(((b+1)=(b+1)∧7=7)∧A 2 [.box (ak.cells c),.box (aa.cells t),.nest (.sl (2) (2) 3 true) [.val (.str c.f3),.val (.int .i64 t.f1),.row a f 7,.val (.str c.f4),.val (.int .i64 t.f1),.row (b+1) (dY b g (fun _=>.agg (aj.cells x))) 7],.val (.int .i64 u),.box (aj.cells x),.val (.bool true),.val (ae aj.enc 7 t.f2),.val (.int .i64 m),.val (.int .i64 i),.val (.int .i64 (2:Int)),.val (.int .i64 (2:Int))])))
abbrev IX [Env] (A:Nat→List SV→Prop) (Q:V→St→Prop) (c:ak) (t:aa) (x:aj) (u m i:Int) (a b:Nat) (f g:Nat→V) (p0:Int):Prop:=
 ((a=a∧7=7)∧((b=b∧7=7)∧A 2 [.box (ak.cells c),.box (aa.cells t),.nest (.sl (2) (2) 3 true) [.val (.str c.f3),.val (.int .i64 t.f1),.row a f 7,.val (.str c.f4),.val (.int .i64 t.f1),.row b g 7],.val (.int .i64 u),.box (aj.cells x),.val (.bool false),.val (ae aj.enc 7 t.f2),.val (.int .i64 m),.val (.int .i64 i),.val (.int .i64 (2:Int)),.val (.int .i64 (p0:Int))]))
abbrev IY [Env] (A:Nat→List SV→Prop) (Q:V→St→Prop) (c:ak) (t:aa) (x:aj) (u m i:Int) (a b:Nat) (f g:Nat→V) (p0:Int):Prop:=
 ((a=a∧7=7)∧((b=b∧7=7)∧A 2 [.box (ak.cells c),.box (aa.cells t),.nest (.sl (2) (2) 3 true) [.val (.str c.f3),.val (.int .i64 t.f1),.row a f 7,.val (.str c.f4),.val (.int .i64 t.f1),.row b g 7],.val (.int .i64 u),.box (aj.cells x),.val (.bool true),.val (ae aj.enc 7 t.f2),.val (.int .i64 m),.val (.int .i64 i),.val (.int .i64 (2:Int)),.val (.int .i64 (p0:Int))]))
abbrev IZ [Env] (A:Nat→List SV→Prop) (Q:V→St→Prop) (c:ak) (t:aa) (x:aj) (u m i:Int) (a b:Nat) (f g:Nat→V):Prop:=
 ((.i64:IntKind)=.i64∧((a=a∧7=7)∧((b=b∧7=7)∧A 1 [.box (ak.cells c),.box (aa.cells t),.nest (.sl (2) (2) 3 true) [.val (.str c.f3),.val (.int .i64 t.f1),.row a f 7,.val (.str c.f4),.val (.int .i64 t.f1),.row b g 7],.val (ae aj.enc 7 t.f2),.val (.int .i64 m),.val (.int .i64 (IntKind.i64.wrap (i+(1:Int))))])))
theorem QZ [Env] (A:Nat→List SV→Prop) (Q:V→St→Prop) (c:ak) (t:aa) (x:aj) (u m i:Int) (a b:Nat) (f g:Nat→V):WL Tryz.prog 311 Tryz.f311 jM 0 fG A Q 2 [.box (ak.cells c),.box (aa.cells t),.nest (.sl (2) (2) 3 true) [.val (.str c.f3),.val (.int .i64 t.f1),.row a f 7,.val (.str c.f4),.val (.int .i64 t.f1),.row b g 7],.val (.int .i64 u),.box (aj.cells x),.val (.bool true),.val (ae aj.enc 7 t.f2),.val (.int .i64 m),.val (.int .i64 i),.val (.int .i64 (2:Int)),.val (.int .i64 (0:Int))]=
  (((.i64:IntKind)=.i64∧((.i64:IntKind)=.i64∧af (decide (u<t.f1)) ((N0 A Q c t x u m i a b f g)) (((.i64:IntKind)=.i64∧af ((true==true)) ((N0 A Q c t x u m i a b f g)) ((IY A Q c t x u m i a b f g 1))))))):=by kernel_rfl
theorem Q0 [Env] (A:Nat→List SV→Prop) (Q:V→St→Prop) (c:ak) (t:aa) (x:aj) (u m i:Int) (a b:Nat) (f g:Nat→V):WL Tryz.prog 311 Tryz.f311 jM 0 fG A Q 2 [.box (ak.cells c),.box (aa.cells t),.nest (.sl (2) (2) 3 true) [.val (.str c.f3),.val (.int .i64 t.f1),.row a f 7,.val (.str c.f4),.val (.int .i64 t.f1),.row b g 7],.val (.int .i64 u),.box (aj.cells x),.val (.bool false),.val (ae aj.enc 7 t.f2),.val (.int .i64 m),.val (.int .i64 i),.val (.int .i64 (2:Int)),.val (.int .i64 (0:Int))]=
  (((.i64:IntKind)=.i64∧((.i64:IntKind)=.i64∧af (decide (u<t.f1)) ((NY A Q c t x u m i a b f g)) (((.i64:IntKind)=.i64∧af ((false==true)) ((NY A Q c t x u m i a b f g)) ((IX A Q c t x u m i a b f g 1))))))):=by kernel_rfl
theorem Q1 [Env] (A:Nat→List SV→Prop) (Q:V→St→Prop) (c:ak) (t:aa) (x:aj) (u m i:Int) (a b:Nat) (f g:Nat→V):WL Tryz.prog 311 Tryz.f311 jM 0 fG A Q 2 [.box (ak.cells c),.box (aa.cells t),.nest (.sl (2) (2) 3 true) [.val (.str c.f3),.val (.int .i64 t.f1),.row a f 7,.val (.str c.f4),.val (.int .i64 t.f1),.row b g 7],.val (.int .i64 u),.box (aj.cells x),.val (.bool true),.val (ae aj.enc 7 t.f2),.val (.int .i64 m),.val (.int .i64 i),.val (.int .i64 (2:Int)),.val (.int .i64 (1:Int))]=
  (((.i64:IntKind)=.i64∧((.i64:IntKind)=.i64∧af (decide (u<t.f1)) ((N1 A Q c t x u m i a b f g)) (((.i64:IntKind)=.i64∧af ((true==false)) ((N1 A Q c t x u m i a b f g)) ((IY A Q c t x u m i a b f g 2))))))):=by kernel_rfl
theorem Q2 [Env] (A:Nat→List SV→Prop) (Q:V→St→Prop) (c:ak) (t:aa) (x:aj) (u m i:Int) (a b:Nat) (f g:Nat→V):WL Tryz.prog 311 Tryz.f311 jM 0 fG A Q 2 [.box (ak.cells c),.box (aa.cells t),.nest (.sl (2) (2) 3 true) [.val (.str c.f3),.val (.int .i64 t.f1),.row a f 7,.val (.str c.f4),.val (.int .i64 t.f1),.row b g 7],.val (.int .i64 u),.box (aj.cells x),.val (.bool false),.val (ae aj.enc 7 t.f2),.val (.int .i64 m),.val (.int .i64 i),.val (.int .i64 (2:Int)),.val (.int .i64 (1:Int))]=
  (((.i64:IntKind)=.i64∧((.i64:IntKind)=.i64∧af (decide (u<t.f1)) ((NZ A Q c t x u m i a b f g)) (((.i64:IntKind)=.i64∧af ((false==false)) ((NZ A Q c t x u m i a b f g)) ((IX A Q c t x u m i a b f g 2))))))):=by kernel_rfl
theorem Q3 [Env] (A:Nat→List SV→Prop) (Q:V→St→Prop) (c:ak) (t:aa) (x:aj) (u m i:Int) (a b:Nat) (f g:Nat→V):WL Tryz.prog 311 Tryz.f311 jM 0 fG A Q 2 [.box (ak.cells c),.box (aa.cells t),.nest (.sl (2) (2) 3 true) [.val (.str c.f3),.val (.int .i64 t.f1),.row a f 7,.val (.str c.f4),.val (.int .i64 t.f1),.row b g 7],.val (.int .i64 u),.box (aj.cells x),.val (.bool true),.val (ae aj.enc 7 t.f2),.val (.int .i64 m),.val (.int .i64 i),.val (.int .i64 (2:Int)),.val (.int .i64 (2:Int))]=
  ((IZ A Q c t x u m i a b f g)):=by kernel_rfl
theorem Q4 [Env] (A:Nat→List SV→Prop) (Q:V→St→Prop) (c:ak) (t:aa) (x:aj) (u m i:Int) (a b:Nat) (f g:Nat→V):WL Tryz.prog 311 Tryz.f311 jM 0 fG A Q 2 [.box (ak.cells c),.box (aa.cells t),.nest (.sl (2) (2) 3 true) [.val (.str c.f3),.val (.int .i64 t.f1),.row a f 7,.val (.str c.f4),.val (.int .i64 t.f1),.row b g 7],.val (.int .i64 u),.box (aj.cells x),.val (.bool false),.val (ae aj.enc 7 t.f2),.val (.int .i64 m),.val (.int .i64 i),.val (.int .i64 (2:Int)),.val (.int .i64 (2:Int))]=
  ((IZ A Q c t x u m i a b f g)):=by kernel_rfl
def Vj [Env] (vs:List V) (σ:St) (k:ah):Prop:=
 ∃(c:ak) (l:List aa),bn σ vs [ak.enc c,ae aa.enc 3 l]∧(fi c∧c.f0=5∧c.f7.length≤1000000∧1≤l.length∧l.length≤16∧∀t∈l,dz t∧bu t=0)∧(kE c (l.getD 0 default) (l.getD 1 default)=0→k (.tuple [.own σ.next (kT c (l.getD 0 default)).length 3,.int .i64 0]) ((void σ.next).new σ.next (.row (kT c (l.getD 0 default)).length (fun i=>aa.enc ((kT c (l.getD 0 default)).getD i default)) 3 false)))∧(kE c (l.getD 0 default) (l.getD 1 default)≠0→k (.tuple [.ai,.int .i64 (kE c (l.getD 0 default) (l.getD 1 default))]) (void σ.next))
def Vk [Env]:=kS 311 Vj jM
end Go.Proofs.YtbajncpfmemdgaaGreatDoor
end
section
namespace Go.Proofs.YtbajncpfmemdgaaGreatDoor
open Go Go.Ev Go.IntWalk
theorem F300:bU Tryz.prog 300 Tryz.f300:=.of (by kernel_rfl) (by kernel_rfl)
theorem F303:bU Tryz.prog 303 Tryz.f303:=.of (by kernel_rfl) (by kernel_rfl)
theorem F306:bU Tryz.prog 306 Tryz.f306:=.of (by kernel_rfl) (by kernel_rfl)
theorem F314:bU Tryz.prog 314 Tryz.f314:=.of (by kernel_rfl) (by kernel_rfl)
section
variable [Env]
omit [Env] in
theorem xn {c:ak} (h:c.f0=1) (t u:aa):kE c t u=bu c.f9:=if_pos h
omit [Env] in
theorem xo {c:ak} (h:c.f0=1) (t:aa):kT c t=[c.f9]:=if_pos h
omit [Env] in
theorem I0 {c:ak} (h:c.f0=2) (t u:aa):kE c t u=ql t c.f8:=by
 have h1:¬c.f0=1:=by omega
 unfold kE;rw[if_neg h1,if_pos h]
omit [Env] in
theorem I1 {c:ak} (h:c.f0=2) (t:aa):kT c t=[zO t c.f8]:=by
 have h1:¬c.f0=1:=by omega
 unfold kT;rw[if_neg h1,if_pos h]
omit [Env] in
theorem Dl {c:ak} (h:c.f0=3) (t u:aa):kE c t u=Bu t c.f5:=by
 have h1:¬c.f0=1:=by omega
 have h2:¬c.f0=2:=by omega
 unfold kE;rw[if_neg h1,if_neg h2,if_pos h]
omit [Env] in
theorem I2 {c:ak} (h:c.f0=3) (t:aa):kT c t=[Ix t c.f5]:=by
 have h1:¬c.f0=1:=by omega
 have h2:¬c.f0=2:=by omega
 unfold kT;rw[if_neg h1,if_neg h2,if_pos h]
omit [Env] in
theorem I3 {c:ak} (h:c.f0=4) (t u:aa):kE c t u=xi t c.f5 c.f6:=by
 have h1:¬c.f0=1:=by omega
 have h2:¬c.f0=2:=by omega
 have h3:¬c.f0=3:=by omega
 unfold kE;rw[if_neg h1,if_neg h2,if_neg h3,if_pos h]
omit [Env] in
theorem I4 {c:ak} (h:c.f0=4) (t:aa):kT c t=[uf t c.f5 c.f6]:=by
 have h1:¬c.f0=1:=by omega
 have h2:¬c.f0=2:=by omega
 have h3:¬c.f0=3:=by omega
 unfold kT;rw[if_neg h1,if_neg h2,if_neg h3,if_pos h]
omit [Env] in
theorem Dm {c:ak} (h:c.f0=5) (t u:aa):kE c t u=mJ t c:=by
 have h1:¬c.f0=1:=by omega
 have h2:¬c.f0=2:=by omega
 have h3:¬c.f0=3:=by omega
 have h4:¬c.f0=4:=by omega
 unfold kE;rw[if_neg h1,if_neg h2,if_neg h3,if_neg h4,if_pos h]
omit [Env] in
theorem I5 {c:ak} (h:c.f0=5) (t:aa):kT c t=Da t c:=by
 have h1:¬c.f0=1:=by omega
 have h2:¬c.f0=2:=by omega
 have h3:¬c.f0=3:=by omega
 have h4:¬c.f0=4:=by omega
 unfold kT;rw[if_neg h1,if_neg h2,if_neg h3,if_neg h4,if_pos h]
omit [Env] in
theorem N2 {c:ak} (h:c.f0=6) (t u:aa):kE c t u=ug t u c:=by
 have h1:¬c.f0=1:=by omega
 have h2:¬c.f0=2:=by omega
 have h3:¬c.f0=3:=by omega
 have h4:¬c.f0=4:=by omega
 have h5:¬c.f0=5:=by omega
 unfold kE;rw[if_neg h1,if_neg h2,if_neg h3,if_neg h4,if_neg h5]
omit [Env] in
theorem I6 {c:ak} (h:c.f0=6) (t:aa):kT c t=[T4 t c]:=by
 have h1:¬c.f0=1:=by omega
 have h2:¬c.f0=2:=by omega
 have h3:¬c.f0=3:=by omega
 have h4:¬c.f0=4:=by omega
 have h5:¬c.f0=5:=by omega
 unfold kT;rw[if_neg h1,if_neg h2,if_neg h3,if_neg h4,if_neg h5]
structure wK (σ:St) (k:ah) (E:Int) (T:List aa):Prop where
 ok:E=0→k (.tuple [.own σ.next T.length 3,.int .i64 0]) ((void σ.next).new σ.next (.row T.length (fun i=>aa.enc (T.getD i default)) 3 false))
 bad:E≠0→k (.tuple [.ai,.int .i64 E]) (void σ.next)
variable {σ:St} {k:ah} {E:Int} {T:List aa}
theorem wK.err (h:wK σ k E T) {e:Int} (he:E=e) (h0:e≠0) {τ:St}:bl (void σ.next) k (.tuple [.ai,.int .i64 e]) τ:=by
 subst he;exact bl.ij (.tuple (.cons .ai (.cons (.int _ _) .nil))) (h.bad h0)
theorem wK.one (h:wK σ k E T) {t:aa} (hT:T=[t]) {e:Int} (he:E=e) {b nx nx':Nat} {H:Trie bV}:(e=0→bl (void σ.next) k (.tuple [.own b 1 3,.int .i64 0]) ⟨(St.new Go.Ev.start b (.row 1 (fun i=>aa.enc ([t].getD i default)) 3 false)).heap,nx⟩)∧
  (e≠0→bl (void σ.next) k (.tuple [.ai,.int .i64 e]) ⟨H,nx'⟩):=by
 subst he;subst hT
 refine⟨fun h0=>bl.pair (b:=b) (n:=1) (esz:=3) (g:=fun i=>aa.enc ([t].getD i default)) (.own (f:=fun i=>aa.enc ([t].getD i default)) (p:=false) ?_ fun i hi=>jh (aa.clean _)) (.int _ _) (h.ok h0),fun h0=>h.err rfl h0⟩
 show(St.new Go.Ev.start b _).heap.get b=_
 rw[ie,if_pos rfl]
theorem fx {τ:St} {s:List UInt8} {q e:Int} {b n:Nat} {f:Nat→V} {p:Bool} {L:List aj} (hb:τ.heap.get b=some (.row n f 7 p)) (hr:bE n f L):bn τ [.agg [.str s,.int .i64 q,.own b n 7],.int .i64 e] [aa.enc ⟨s,q,L⟩,.int .i64 e]:=by
 obtain⟨rfl,h⟩:=hr
 refine .cons (.agg (.cons (.str _) (.cons (.int _ _) (.cons (.own (g:=fun i=>aj.enc (L.getD i default)) hb (fun i hi=>?_) fun i hi=>rfl) .nil)))) (.cons (.int _ _) .nil)
 rw[h i hi];exact jh (aj.clean _)
omit [Env] in
theorem bE.of (l:List aj):bE l.length (fun i=>aj.enc (l.getD i default)) l:=⟨rfl,fun _ _=>rfl⟩
omit [Env] in
theorem cB {b:Bool} {A B:Prop} (hb:b=true) (h:A):af b A B:=af.mk (fun _=>h) fun h'=>by rw[hb] at h';cases h'
variable [aC] {vs:List V}
omit [Env] [aC] in
theorem dz.gH {t:aa} (h:dz t):gH t:=fun c hc=>(h c hc).1
theorem Q5 (h:U2 vs σ k):ag Tryz.prog 300 vs k σ:=by
 obtain⟨c,l,hf,⟨hc,h0,_,_,_,ht⟩,hk,ed⟩:=h
 have ho:wK σ k _ _:=⟨hk,ed⟩
 refine ag.mH hf (F300.ck (live:=GF) (call:=IL) (fun h=>GD h) (by kernel_rfl) ?_)
 rw[abp]
 refine⟨c.f9,rfl,dz.gH hc.2,cB (by simp [V.beq,V.gD,aa.cells,ae]) ⟨c.f9,bu c.f9,.cons (.clean c.f9.aG) (.cons (.int _ _) .nil),?_⟩⟩
 exact ho.one (xo h0 _) (xn h0 _ _)
theorem GI:∀ {f:FuncId} {vs:List V} {σ:St} {k:ah},Dh f vs σ k→ag Tryz.prog f vs k σ:=fun h=>aP Q5 GD h
omit [Env] [aC] in
theorem K9 {t:aa} {c:aj} (h:bR c≠0):ql t c=bR c:=if_pos h
omit [Env] [aC] in
theorem La {t:aa} {c:aj} (h:¬bR c≠0) (h2:0≤bw t c.f0):ql t c=12:=(if_neg h).trans (if_pos h2)
omit [Env] [aC] in
theorem Lb {t:aa} {c:aj} (h:¬bR c≠0) (h2:¬ 0≤bw t c.f0) (h3:8≤t.f2.length):ql t c=2:=((if_neg h).trans (if_neg h2)).trans (if_pos h3)
omit [Env] [aC] in
theorem Vl {t:aa} {c:aj} (h:¬bR c≠0) (h2:¬ 0≤bw t c.f0) (h3:¬ 8≤t.f2.length) (h4:c.f2=false∧c.f3.f0=0):ql t c=11:=(((if_neg h).trans (if_neg h2)).trans (if_neg h3)).trans (if_pos h4)
omit [Env] [aC] in
theorem Lc {t:aa} {c:aj} (h:¬bR c≠0) (h2:¬ 0≤bw t c.f0) (h3:¬ 8≤t.f2.length) (h4:¬(c.f2=false∧c.f3.f0=0)):ql t c=bR c:=
 ((((if_neg h).trans (if_neg h2)).trans (if_neg h3)).trans (if_neg h4)).trans (Decidable.not_not.1 h).symm
set_option maxRecDepth 100000 in
theorem Q6 (h:U8 vs σ k):ag Tryz.prog 303 vs k σ:=by
 obtain⟨c,l,hf,⟨hc,h0,_,hl,_,ht⟩,hk,ed⟩:=h
 have ho:wK σ k _ _:=⟨hk,ed⟩
 obtain⟨rj,wL⟩:=ht _ (ba (show 0<l.length by omega))
 have hlen:0<(l.getD 0 default).f2.length∧(l.getD 0 default).f2.length≤8:=by have:=(lX wL).1;obtain⟨_,h1,_⟩:=this;omega
 refine ag.mH hf (F303.ck (live:=zT) (call:=Dh) (fun h=>GI h) (by kernel_rfl) ?_)
 have hT:=I1 h0 (l.getD 0 default)
 have hE:=I0 h0 (l.getD 0 default) (l.getD 1 default)
 rw[hT,hE] at ho
 obtain⟨f0,f1,f2,f3,f4,f5,f6,f7,⟨g0,g1,g2,g3⟩,f9⟩:=c
 have dD:tT ⟨g0,g1,g2,g3⟩:=hc.1.1
 cases g2 with
 | true=>
  refine(Xb _ _ ⟨f0,f1,f2,f3,f4,f5,f6,f7,⟨g0,g1,true,g3⟩,f9⟩ l).mpr ⟨⟨by omega,by omega⟩,⟨g0,g1,true,g3⟩,rfl,dD,rfl,av (fun a1=>⟨_,rfl,⟨by omega,by omega⟩,cB (by simp [V.beq,V.gD]) ⟨⟨rfl,by omega⟩,_,_,fx (p:=false) (by rfl) ((bE.of _).push ⟨g0,g1,true,g3⟩),ho.one rfl (K9 a1)⟩⟩) fun a1=>?_⟩
  refine⟨_,_,rfl,by show(l.getD 0 default).f2.length≤1000;omega,rfl,av (fun a2=>⟨_,rfl,⟨by omega,by omega⟩,cB (by simp [V.beq,V.gD]) ⟨⟨rfl,by omega⟩,_,_,fx (p:=false) (by rfl) ((bE.of _).push ⟨g0,g1,true,g3⟩),ho.one rfl (La a1 a2)⟩⟩) fun a2=>⟨rfl,av (fun a3=>⟨_,rfl,⟨by omega,by omega⟩,cB (by simp [V.beq,V.gD]) ⟨⟨rfl,by omega⟩,_,_,fx (p:=false) (by rfl) ((bE.of _).push ⟨g0,g1,true,g3⟩),ho.one rfl (Lb a1 a2 (by omega))⟩⟩) fun a3=>?_⟩⟩
  exact⟨_,rfl,⟨by omega,by omega⟩,cB (by simp [V.beq,V.gD]) ⟨⟨rfl,by omega⟩,_,_,fx (p:=false) (by rfl) ((bE.of _).push ⟨g0,g1,true,g3⟩),ho.one rfl (Lc a1 a2 (by omega) fun h=>by cases h.1)⟩⟩
 | false=>
  refine(Xc _ _ ⟨f0,f1,f2,f3,f4,f5,f6,f7,⟨g0,g1,false,g3⟩,f9⟩ l).mpr ⟨⟨by omega,by omega⟩,⟨g0,g1,false,g3⟩,rfl,dD,rfl,av (fun a1=>⟨_,rfl,⟨by omega,by omega⟩,cB (by simp [V.beq,V.gD]) ⟨⟨rfl,by omega⟩,_,_,fx (p:=false) (by rfl) ((bE.of _).push ⟨g0,g1,false,g3⟩),ho.one rfl (K9 a1)⟩⟩) fun a1=>?_⟩
  refine⟨_,_,rfl,by show(l.getD 0 default).f2.length≤1000;omega,rfl,av (fun a2=>⟨_,rfl,⟨by omega,by omega⟩,cB (by simp [V.beq,V.gD]) ⟨⟨rfl,by omega⟩,_,_,fx (p:=false) (by rfl) ((bE.of _).push ⟨g0,g1,false,g3⟩),ho.one rfl (La a1 a2)⟩⟩) fun a2=>⟨rfl,av (fun a3=>⟨_,rfl,⟨by omega,by omega⟩,cB (by simp [V.beq,V.gD]) ⟨⟨rfl,by omega⟩,_,_,fx (p:=false) (by rfl) ((bE.of _).push ⟨g0,g1,false,g3⟩),ho.one rfl (Lb a1 a2 (by omega))⟩⟩) fun a3=>?_⟩⟩
  refine⟨rfl,av (fun a4=>?_) fun a4=>?_⟩
  ·exact⟨_,rfl,⟨by omega,by omega⟩,cB (by simp [V.beq,V.gD]) ⟨⟨rfl,by omega⟩,_,_,fx (p:=false) (by rfl) ((bE.of _).push ⟨g0,g1,false,g3⟩),ho.one rfl (Vl a1 a2 (by omega) ⟨rfl,a4⟩)⟩⟩
  ·exact⟨_,rfl,⟨by omega,by omega⟩,cB (by simp [V.beq,V.gD]) ⟨⟨rfl,by omega⟩,_,_,fx (p:=false) (by rfl) ((bE.of _).push ⟨g0,g1,false,g3⟩),ho.one rfl (Lc a1 a2 (by omega) fun h=>a4 h.2)⟩⟩
theorem GJ:∀ {f:FuncId} {vs:List V} {σ:St} {k:ah},IP f vs σ k→ag Tryz.prog f vs k σ:=fun h=>aP Q6 GI h
omit [Env] [aC] in
theorem xp (t:aa) (s:List UInt8): -1≤bw t s∧bw t s<t.f2.length:=by
 rcases hG s (fun i=>(t.f2.getD i default).f0) t.f2.length with ⟨h,_⟩ | ⟨i,h,hi,_⟩
 ·have:bw t s= -1:=h
  omega
 ·have:bw t s=i:=h
  omega
theorem Q7 (h:Vb vs σ k):ag Tryz.prog 306 vs k σ:=by
 obtain⟨c,l,hf,⟨hc,h0,_,hl,_,ht⟩,hk,ed⟩:=h
 have ho:wK σ k _ _:=⟨hk,ed⟩
 obtain⟨rj,wL⟩:=ht _ (ba (show 0<l.length by omega))
 have hlen:0<(l.getD 0 default).f2.length∧(l.getD 0 default).f2.length≤8∧1≤(l.getD 0 default).f1:=by have:=(lX wL).1;obtain⟨_,h1,h2,_⟩:=this;omega
 refine ag.mH hf (F306.ck (live:=GG) (call:=IP) (fun h=>GJ h) (by kernel_rfl) ?_)
 rw[I2 h0 (l.getD 0 default),Dl h0 (l.getD 0 default) (l.getD 1 default)] at ho
 have hca:=xp (l.getD 0 default) c.f5
 rw[abq]
 refine⟨⟨by omega,by omega⟩,_,_,rfl,by show(l.getD 0 default).f2.length≤1000;omega,rfl,av (fun a1=>ho.err (if_pos a1) (by decide)) fun a1=>?_⟩
 obtain⟨i,hi⟩:∃i:Nat,bw (l.getD 0 default) c.f5=i:=⟨(bw (l.getD 0 default) c.f5).toNat,by omega⟩
 refine⟨_,rfl,⟨by omega,by omega⟩,(l.getD 0 default).f2,i,⟨rfl,hi,?_⟩,by rfl,⟨by omega,by omega,by omega⟩,fun n f hr=>⟨_,_,fx (p:=false) (by rfl) hr,ho.one ?_ (if_neg a1)⟩⟩
 ·rw[hi];exact i64_in _ (by omega)
 ·have:(fun j:Nat=>decide (j≠i))=fun j:Nat=>decide ((j:Int)≠bw (l.getD 0 default) c.f5):=funext fun j=>by rw[hi];exact decide_eq_decide.2 ⟨fun h e=>h (by omega),fun h e=>h (by omega)⟩
  rw[this];rfl
theorem GK:∀ {f:FuncId} {vs:List V} {σ:St} {k:ah},IV f vs σ k→ag Tryz.prog f vs k σ:=fun h=>aP Q7 GJ h
theorem Q8 (h:Ve vs σ k):ag Tryz.prog 314 vs k σ:=by
 obtain⟨c,l,hf,⟨hc,h0,_,hl,_,ht⟩,hk,ed⟩:=h
 have ho:wK σ k _ _:=⟨hk,ed⟩
 obtain⟨rj,wL⟩:=ht _ (ba (show 0<l.length by omega))
 have hlen:0<(l.getD 0 default).f2.length∧(l.getD 0 default).f2.length≤8:=by have:=(lX wL).1;obtain⟨_,h1,_⟩:=this;omega
 refine ag.mH hf (F314.ck (live:=GH) (call:=IV) (fun h=>GK h) (by kernel_rfl) ?_)
 rw[I6 h0 (l.getD 0 default),N2 h0 (l.getD 0 default) (l.getD 1 default)] at ho
 rw[abr];unfold NR NQ
 have e12:c.f1=c.f2→ug (l.getD 0 default) (l.getD 1 default) c=12:=fun h=>if_pos h
 have en:¬c.f1=c.f2→aD c.f3≠0→ug (l.getD 0 default) (l.getD 1 default) c=aD c.f3:=fun h1 h2=>(if_neg h1).trans (if_pos h2)
 have Zn:¬c.f1=c.f2→aD c.f3=0→((l.getD 0 default).f1≠(l.getD 1 default).f1∨(l.getD 0 default).f2≠(l.getD 1 default).f2)→ug (l.getD 0 default) (l.getD 1 default) c=11:=fun h1 h2 h3=>((if_neg h1).trans (if_neg fun h=>h h2)).trans (if_pos h3)
 have e0:¬c.f1=c.f2→aD c.f3=0→¬((l.getD 0 default).f1≠(l.getD 1 default).f1∨(l.getD 0 default).f2≠(l.getD 1 default).f2)→ug (l.getD 0 default) (l.getD 1 default) c=aD c.f3:=fun h1 h2 h3=>(((if_neg h1).trans (if_neg fun h=>h h2)).trans (if_neg h3)).trans h2.symm
 refine av (fun a1=>ho.err (e12 a1) (by decide)) fun a1=>⟨⟨by omega,by omega⟩,rfl,av (fun a2=>⟨⟨by omega,by omega⟩,rfl,av (fun a3=>?_) fun a3=>⟨⟨by omega,by omega⟩,_,_,rfl,by omega,fun b hb=>af.mk (fun a4=>?_) fun a4=>?_⟩⟩) fun a2=>?_⟩
 ·exact⟨_,rfl,⟨by omega,by omega⟩,cB (by simp [V.beq]) ⟨_,_,fx (p:=false) (by rfl) (bE.of _),ho.one rfl (Zn a1 a2 (.inl a3))⟩⟩
 ·exact⟨_,rfl,⟨by omega,by omega⟩,cB (by simp [V.beq]) ⟨_,_,fx (p:=false) (by rfl) (bE.of _),ho.one rfl (Zn a1 a2 (.inr fun e=>by rw[hb.2 e] at a4;cases a4))⟩⟩
 ·exact⟨_,rfl,⟨by omega,by omega⟩,cB (by simp [V.beq]) ⟨_,_,fx (p:=false) (by rfl) (bE.of _),ho.one rfl (e0 a1 a2 fun h=>by
   rcases h with h | h
   ·exact a3 h
   ·exact h (hb.1 (by simpa using a4)))⟩⟩
 ·exact⟨_,rfl,⟨by omega,by omega⟩,cB (by simp [V.beq]) ⟨_,_,fx (p:=false) (by rfl) (bE.of _),ho.one rfl (en a1 a2)⟩⟩
theorem GL:∀ {f:FuncId} {vs:List V} {σ:St} {k:ah},jM f vs σ k→ag Tryz.prog f vs k σ:=fun h=>aP Q8 GK h
end
end Go.Proofs.YtbajncpfmemdgaaGreatDoor
end
