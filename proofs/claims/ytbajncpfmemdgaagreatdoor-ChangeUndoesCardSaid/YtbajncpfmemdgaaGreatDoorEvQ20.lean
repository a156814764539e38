/- Proved: parts of the way: BEq20, BEq21, BD4. -/
import Derived.Test.YtbajncpfmemdgaaGreatDoorEvQ19
set_option linter.unusedVariables false
set_option linter.unusedSimpArgs false
section
namespace Go.Proofs.YtbajncpfmemdgaaGreatDoor
open Go Go.Ev
def F1:Nat→List Nat:=(fun _=>[])
theorem aat [Env] (A:Nat→List SV→Prop) (Q:V→St→Prop) (c:ak) (l:List aa):WE Tryz.prog 300 Tryz.f300 H7 0 F1 A Q [ak.enc c,af aa.enc 3 l] Go.Ev.start=
  ((∃MY:aa,[.agg (aa.cells c.f9)]=[aa.enc MY]∧ie MY∧ae (V.beq (.agg (aa.cells c.f9)) (.agg (aa.cells c.f9))&&true) ((∃(Ue:aa) (H8:Int),bn ⟨(St.new Go.Ev.start 0 (.cells 18 [] (an (ak.cells c) .leaf 0) true false)).heap,11⟩ [.agg (aa.cells c.f9),.int .i64 (bB MY)] [aa.enc Ue,.int .i64 H8]∧(H8=0→Q (.tuple [.own 11 (1) 3,.int .i64 (0:Int)]) ⟨(St.new Go.Ev.start 11 (.row (1) (fun i=>aa.enc (([Ue]).getD i default)) 3 false)).heap,12⟩)∧(H8≠0→Q (.tuple [.ai,.int .i64 H8]) ⟨Go.Ev.start.heap,11⟩))) False)):=by kernel_rfl
def Uf [Env] (vs:List V) (σ:St) (k:ah):Prop:=
 ∃(c:ak) (l:List aa),bn σ vs [ak.enc c,af aa.enc 3 l]∧(e7 c∧c.f0=1∧c.f7.length≤1000000∧0≤l.length∧l.length≤16∧∀t∈l,dY t∧bB t=0)∧(kE c (l.getD 0 default) (l.getD 1 default)=0→k (.tuple [.own σ.next (kT c (l.getD 0 default)).length 3,.int .i64 0]) ((void σ.next).new σ.next (.row (kT c (l.getD 0 default)).length (fun i=>aa.enc ((kT c (l.getD 0 default)).getD i default)) 3 false)))∧(kE c (l.getD 0 default) (l.getD 1 default)≠0→k (.tuple [.ai,.int .i64 (kE c (l.getD 0 default) (l.getD 1 default))]) (void σ.next))
def CD [Env]:=kS 300 Uf H7
def zo:Nat→List Nat:=(fun _=>[])
abbrev MZ [Env] (A:Nat→List SV→Prop) (Q:V→St→Prop) (c:ak) (l:List aa) (p0:Int):Prop:=
 (∃b0:List aj,[af aj.enc 7 ((l.getD 0 default).f2)]=[af aj.enc 7 b0]∧(0<b0.length∧b0.length≤1000)∧ae (V.beq (.agg [.str c.f8.f0,.int .i64 c.f8.f1,.bool false,.int .i64 c.f8.f3.f0,.int .i64 c.f8.f3.f1,.int .u64 c.f8.f3.f2,.str c.f8.f3.f3]) (.agg [.str c.f8.f0,.int .i64 c.f8.f1,.bool false,.int .i64 c.f8.f3.f0,.int .i64 c.f8.f3.f1,.int .u64 c.f8.f3.f2,.str c.f8.f3.f3])&&true) (((b0.length=b0.length∧(b0.length+1)*72≤1099511627776)∧(∃(b1:aa) (b2:Int),bn ⟨(St.kill (St.new (St.new (St.new (St.new Go.Ev.start 0 (.cells 18 [] (an [.int .i64 c.f0,.str c.f1,.str c.f2,.str c.f3,.str c.f4,.str c.f5,.int .i64 c.f6,af V.str 1 c.f7,.str c.f8.f0,.int .i64 c.f8.f1,.bool false,.int .i64 c.f8.f3.f0,.int .i64 c.f8.f3.f1,.int .u64 c.f8.f3.f2,.str c.f8.f3.f3,.str c.f9.f0,.int .i64 c.f9.f1,af aj.enc 7 c.f9.f2] .leaf 0) true false)) 1 (.cells 3 [] (an [.str ((l.getD 0 default).f0),.int .i64 ((l.getD 0 default).f1),.own 8 (b0.length+1) 7] .leaf 0) true false)) 7 (.cells 7 [] (an [.str c.f8.f0,.int .i64 c.f8.f1,.bool false,.int .i64 c.f8.f3.f0,.int .i64 c.f8.f3.f1,.int .u64 c.f8.f3.f2,.str c.f8.f3.f3] .leaf 0) true false)) 8 (.row (b0.length+1) (dU b0.length (fun i=>aj.enc (b0.getD i default)) (fun _=>.agg [.str c.f8.f0,.int .i64 c.f8.f1,.bool false,.int .i64 c.f8.f3.f0,.int .i64 c.f8.f3.f1,.int .u64 c.f8.f3.f2,.str c.f8.f3.f3])) 7 false)) 11).heap,12⟩ [.agg [.str ((l.getD 0 default).f0),.int .i64 ((l.getD 0 default).f1),.own 8 (b0.length+1) 7],.int .i64 (p0:Int)] [aa.enc b1,.int .i64 b2]∧(b2=0→Q (.tuple [.own 12 (1) 3,.int .i64 (0:Int)]) ⟨(St.new Go.Ev.start 12 (.row (1) (fun i=>aa.enc (([b1]).getD i default)) 3 false)).heap,13⟩)∧(b2≠0→Q (.tuple [.ai,.int .i64 b2]) ⟨Go.Ev.start.heap,12⟩)))) False)
abbrev Ug [Env] (A:Nat→List SV→Prop) (Q:V→St→Prop) (c:ak) (l:List aa) (p0:aj):Prop:=
 (∃b0:List aj,[af aj.enc 7 ((l.getD 0 default).f2)]=[af aj.enc 7 b0]∧(0<b0.length∧b0.length≤1000)∧ae (V.beq (.agg [.str c.f8.f0,.int .i64 c.f8.f1,.bool false,.int .i64 c.f8.f3.f0,.int .i64 c.f8.f3.f1,.int .u64 c.f8.f3.f2,.str c.f8.f3.f3]) (.agg [.str c.f8.f0,.int .i64 c.f8.f1,.bool false,.int .i64 c.f8.f3.f0,.int .i64 c.f8.f3.f1,.int .u64 c.f8.f3.f2,.str c.f8.f3.f3])&&true) (((b0.length=b0.length∧(b0.length+1)*72≤1099511627776)∧(∃(b1:aa) (b2:Int),bn ⟨(St.kill (St.new (St.new (St.new (St.new Go.Ev.start 0 (.cells 18 [] (an [.int .i64 c.f0,.str c.f1,.str c.f2,.str c.f3,.str c.f4,.str c.f5,.int .i64 c.f6,af V.str 1 c.f7,.str c.f8.f0,.int .i64 c.f8.f1,.bool false,.int .i64 c.f8.f3.f0,.int .i64 c.f8.f3.f1,.int .u64 c.f8.f3.f2,.str c.f8.f3.f3,.str c.f9.f0,.int .i64 c.f9.f1,af aj.enc 7 c.f9.f2] .leaf 0) true false)) 1 (.cells 3 [] (an [.str ((l.getD 0 default).f0),.int .i64 ((l.getD 0 default).f1),.own 8 (b0.length+1) 7] .leaf 0) true false)) 7 (.cells 7 [] (an [.str c.f8.f0,.int .i64 c.f8.f1,.bool false,.int .i64 c.f8.f3.f0,.int .i64 c.f8.f3.f1,.int .u64 c.f8.f3.f2,.str c.f8.f3.f3] .leaf 0) true false)) 8 (.row (b0.length+1) (dU b0.length (fun i=>aj.enc (b0.getD i default)) (fun _=>.agg [.str c.f8.f0,.int .i64 c.f8.f1,.bool false,.int .i64 c.f8.f3.f0,.int .i64 c.f8.f3.f1,.int .u64 c.f8.f3.f2,.str c.f8.f3.f3])) 7 false)) 11).heap,12⟩ [.agg [.str ((l.getD 0 default).f0),.int .i64 ((l.getD 0 default).f1),.own 8 (b0.length+1) 7],.int .i64 (bV p0)] [aa.enc b1,.int .i64 b2]∧(b2=0→Q (.tuple [.own 12 (1) 3,.int .i64 (0:Int)]) ⟨(St.new Go.Ev.start 12 (.row (1) (fun i=>aa.enc (([b1]).getD i default)) 3 false)).heap,13⟩)∧(b2≠0→Q (.tuple [.ai,.int .i64 b2]) ⟨Go.Ev.start.heap,12⟩)))) False)
abbrev Uh [Env] (A:Nat→List SV→Prop) (Q:V→St→Prop) (c:ak) (l:List aa) (p0:aj):Prop:=
 (∃b0:List aj,[af aj.enc 7 ((l.getD 0 default).f2)]=[af aj.enc 7 b0]∧(0<b0.length∧b0.length≤1000)∧ae (V.beq (.agg [.str c.f8.f0,.int .i64 c.f8.f1,.bool true,.int .i64 c.f8.f3.f0,.int .i64 c.f8.f3.f1,.int .u64 c.f8.f3.f2,.str c.f8.f3.f3]) (.agg [.str c.f8.f0,.int .i64 c.f8.f1,.bool true,.int .i64 c.f8.f3.f0,.int .i64 c.f8.f3.f1,.int .u64 c.f8.f3.f2,.str c.f8.f3.f3])&&true) (((b0.length=b0.length∧(b0.length+1)*72≤1099511627776)∧(∃(b1:aa) (b2:Int),bn ⟨(St.kill (St.new (St.new (St.new (St.new Go.Ev.start 0 (.cells 18 [] (an [.int .i64 c.f0,.str c.f1,.str c.f2,.str c.f3,.str c.f4,.str c.f5,.int .i64 c.f6,af V.str 1 c.f7,.str c.f8.f0,.int .i64 c.f8.f1,.bool true,.int .i64 c.f8.f3.f0,.int .i64 c.f8.f3.f1,.int .u64 c.f8.f3.f2,.str c.f8.f3.f3,.str c.f9.f0,.int .i64 c.f9.f1,af aj.enc 7 c.f9.f2] .leaf 0) true false)) 1 (.cells 3 [] (an [.str ((l.getD 0 default).f0),.int .i64 ((l.getD 0 default).f1),.own 8 (b0.length+1) 7] .leaf 0) true false)) 7 (.cells 7 [] (an [.str c.f8.f0,.int .i64 c.f8.f1,.bool true,.int .i64 c.f8.f3.f0,.int .i64 c.f8.f3.f1,.int .u64 c.f8.f3.f2,.str c.f8.f3.f3] .leaf 0) true false)) 8 (.row (b0.length+1) (dU b0.length (fun i=>aj.enc (b0.getD i default)) (fun _=>.agg [.str c.f8.f0,.int .i64 c.f8.f1,.bool true,.int .i64 c.f8.f3.f0,.int .i64 c.f8.f3.f1,.int .u64 c.f8.f3.f2,.str c.f8.f3.f3])) 7 false)) 11).heap,12⟩ [.agg [.str ((l.getD 0 default).f0),.int .i64 ((l.getD 0 default).f1),.own 8 (b0.length+1) 7],.int .i64 (bV p0)] [aa.enc b1,.int .i64 b2]∧(b2=0→Q (.tuple [.own 12 (1) 3,.int .i64 (0:Int)]) ⟨(St.new Go.Ev.start 12 (.row (1) (fun i=>aa.enc (([b1]).getD i default)) 3 false)).heap,13⟩)∧(b2≠0→Q (.tuple [.ai,.int .i64 b2]) ⟨Go.Ev.start.heap,12⟩)))) False)
abbrev Ui [Env] (A:Nat→List SV→Prop) (Q:V→St→Prop) (c:ak) (l:List aa) (p0:Int):Prop:=
 (∃b0:List aj,[af aj.enc 7 ((l.getD 0 default).f2)]=[af aj.enc 7 b0]∧(0<b0.length∧b0.length≤1000)∧ae (V.beq (.agg [.str c.f8.f0,.int .i64 c.f8.f1,.bool true,.int .i64 c.f8.f3.f0,.int .i64 c.f8.f3.f1,.int .u64 c.f8.f3.f2,.str c.f8.f3.f3]) (.agg [.str c.f8.f0,.int .i64 c.f8.f1,.bool true,.int .i64 c.f8.f3.f0,.int .i64 c.f8.f3.f1,.int .u64 c.f8.f3.f2,.str c.f8.f3.f3])&&true) (((b0.length=b0.length∧(b0.length+1)*72≤1099511627776)∧(∃(b1:aa) (b2:Int),bn ⟨(St.kill (St.new (St.new (St.new (St.new Go.Ev.start 0 (.cells 18 [] (an [.int .i64 c.f0,.str c.f1,.str c.f2,.str c.f3,.str c.f4,.str c.f5,.int .i64 c.f6,af V.str 1 c.f7,.str c.f8.f0,.int .i64 c.f8.f1,.bool true,.int .i64 c.f8.f3.f0,.int .i64 c.f8.f3.f1,.int .u64 c.f8.f3.f2,.str c.f8.f3.f3,.str c.f9.f0,.int .i64 c.f9.f1,af aj.enc 7 c.f9.f2] .leaf 0) true false)) 1 (.cells 3 [] (an [.str ((l.getD 0 default).f0),.int .i64 ((l.getD 0 default).f1),.own 8 (b0.length+1) 7] .leaf 0) true false)) 7 (.cells 7 [] (an [.str c.f8.f0,.int .i64 c.f8.f1,.bool true,.int .i64 c.f8.f3.f0,.int .i64 c.f8.f3.f1,.int .u64 c.f8.f3.f2,.str c.f8.f3.f3] .leaf 0) true false)) 8 (.row (b0.length+1) (dU b0.length (fun i=>aj.enc (b0.getD i default)) (fun _=>.agg [.str c.f8.f0,.int .i64 c.f8.f1,.bool true,.int .i64 c.f8.f3.f0,.int .i64 c.f8.f3.f1,.int .u64 c.f8.f3.f2,.str c.f8.f3.f3])) 7 false)) 11).heap,12⟩ [.agg [.str ((l.getD 0 default).f0),.int .i64 ((l.getD 0 default).f1),.own 8 (b0.length+1) 7],.int .i64 (p0:Int)] [aa.enc b1,.int .i64 b2]∧(b2=0→Q (.tuple [.own 12 (1) 3,.int .i64 (0:Int)]) ⟨(St.new Go.Ev.start 12 (.row (1) (fun i=>aa.enc (([b1]).getD i default)) 3 false)).heap,13⟩)∧(b2≠0→Q (.tuple [.ai,.int .i64 b2]) ⟨Go.Ev.start.heap,12⟩)))) False)
theorem V8 [Env] (A:Nat→List SV→Prop) (Q:V→St→Prop) (c:ak) (l:List aa):WE Tryz.prog 303 Tryz.f303 CD 0 zo A Q [.agg [.int .i64 c.f0,.str c.f1,.str c.f2,.str c.f3,.str c.f4,.str c.f5,.int .i64 c.f6,af V.str 1 c.f7,.str c.f8.f0,.int .i64 c.f8.f1,.bool true,.int .i64 c.f8.f3.f0,.int .i64 c.f8.f3.f1,.int .u64 c.f8.f3.f2,.str c.f8.f3.f3,.str c.f9.f0,.int .i64 c.f9.f1,af aj.enc 7 c.f9.f2],af aa.enc 3 l] Go.Ev.start=
  (((0≤(0:Int)∧(0:Int)<((l.length:Nat):Int))∧(∃CE:aj,[.agg [.str c.f8.f0,.int .i64 c.f8.f1,.bool true,.int .i64 c.f8.f3.f0,.int .i64 c.f8.f3.f1,.int .u64 c.f8.f3.f2,.str c.f8.f3.f3]]=[aj.enc CE]∧tY CE∧((.i64:IntKind)=.i64∧ae (decide ((bV CE)≠(0:Int))) ((Uh A Q c l CE)) ((∃(M0:aa) (Uj:List UInt8),[.agg (aa.cells (l.getD 0 default)),.str c.f8.f0]=[aa.enc M0,.str Uj]∧M0.f2.length≤1000∧((.i64:IntKind)=.i64∧ae (decide ((bA M0 Uj)≥(0:Int))) ((Ui A Q c l 12)) (((.i64:IntKind)=.i64∧ae (decide ((((((l.getD 0 default).f2).length:Nat):Int))≥(8:Int))) ((Ui A Q c l 2)) ((Uh A Q c l CE))))))))))):=by kernel_rfl
theorem V9 [Env] (A:Nat→List SV→Prop) (Q:V→St→Prop) (c:ak) (l:List aa):WE Tryz.prog 303 Tryz.f303 CD 0 zo A Q [.agg [.int .i64 c.f0,.str c.f1,.str c.f2,.str c.f3,.str c.f4,.str c.f5,.int .i64 c.f6,af V.str 1 c.f7,.str c.f8.f0,.int .i64 c.f8.f1,.bool false,.int .i64 c.f8.f3.f0,.int .i64 c.f8.f3.f1,.int .u64 c.f8.f3.f2,.str c.f8.f3.f3,.str c.f9.f0,.int .i64 c.f9.f1,af aj.enc 7 c.f9.f2],af aa.enc 3 l] Go.Ev.start=
  (((0≤(0:Int)∧(0:Int)<((l.length:Nat):Int))∧(∃CF:aj,[.agg [.str c.f8.f0,.int .i64 c.f8.f1,.bool false,.int .i64 c.f8.f3.f0,.int .i64 c.f8.f3.f1,.int .u64 c.f8.f3.f2,.str c.f8.f3.f3]]=[aj.enc CF]∧tY CF∧((.i64:IntKind)=.i64∧ae (decide ((bV CF)≠(0:Int))) ((Ug A Q c l CF)) ((∃(M1:aa) (Uk:List UInt8),[.agg (aa.cells (l.getD 0 default)),.str c.f8.f0]=[aa.enc M1,.str Uk]∧M1.f2.length≤1000∧((.i64:IntKind)=.i64∧ae (decide ((bA M1 Uk)≥(0:Int))) ((MZ A Q c l 12)) (((.i64:IntKind)=.i64∧ae (decide ((((((l.getD 0 default).f2).length:Nat):Int))≥(8:Int))) ((MZ A Q c l 2)) (((.i64:IntKind)=.i64∧ae (decide (c.f8.f3.f0=(0:Int))) ((MZ A Q c l 11)) ((Ug A Q c l CF))))))))))))):=by kernel_rfl
def Ul [Env] (vs:List V) (σ:St) (k:ah):Prop:=
 ∃(c:ak) (l:List aa),bn σ vs [ak.enc c,af aa.enc 3 l]∧(e7 c∧c.f0=2∧c.f7.length≤1000000∧1≤l.length∧l.length≤16∧∀t∈l,dY t∧bB t=0)∧(kE c (l.getD 0 default) (l.getD 1 default)=0→k (.tuple [.own σ.next (kT c (l.getD 0 default)).length 3,.int .i64 0]) ((void σ.next).new σ.next (.row (kT c (l.getD 0 default)).length (fun i=>aa.enc ((kT c (l.getD 0 default)).getD i default)) 3 false)))∧(kE c (l.getD 0 default) (l.getD 1 default)≠0→k (.tuple [.ai,.int .i64 (kE c (l.getD 0 default) (l.getD 1 default))]) (void σ.next))
def H9 [Env]:=kS 303 Ul CD
def F2:Nat→List Nat:=(fun _=>[])
theorem aau [Env] (A:Nat→List SV→Prop) (Q:V→St→Prop) (c:ak) (l:List aa):WE Tryz.prog 306 Tryz.f306 H9 0 F2 A Q [ak.enc c,af aa.enc 3 l] Go.Ev.start=
  (((0≤(0:Int)∧(0:Int)<((l.length:Nat):Int))∧(∃(CG:aa) (Ia:List UInt8),[.agg (aa.cells (l.getD 0 default)),.str c.f5]=[aa.enc CG,.str Ia]∧CG.f2.length≤1000∧((.i64:IntKind)=.i64∧ae (decide ((bA CG Ia)<((l.getD 0 default).f1))) (Q (.tuple [.ai,.int .i64 (10:Int)]) ⟨(St.new (St.new Go.Ev.start 0 (.cells 18 [] (an (ak.cells c) .leaf 0) true false)) 1 (.cells 3 [] (an (aa.cells (l.getD 0 default)) .leaf 0) true false)).heap,2⟩) ((∃zp:List aj,[af aj.enc 7 ((l.getD 0 default).f2)]=[af aj.enc 7 zp]∧(0<zp.length∧zp.length≤1000)∧(∃(wQ:List aj) (n193:Nat),(zp.length=wQ.length∧(bA CG Ia)=n193∧(IntKind.i64.wrap ((bA CG Ia)+(1:Int)))=(n193:Int)+1)∧(⟨(St.new (St.new (St.new Go.Ev.start 0 (.cells 18 [] (an (ak.cells c) .leaf 0) true false)) 1 (.cells 3 [] (an (aa.cells (l.getD 0 default)) .leaf 0) true false)) 2 (.row zp.length (fun i=>aj.enc (zp.getD i default)) 7 false)).heap,3⟩:St).heap.get 2=some (.row wQ.length (fun j=>aj.enc (wQ.getD j default)) 7 false)∧(0<n193∧n193<wQ.length∧wQ.length≤8)∧∀n194 Um,bC n194 Um (bp (fun j=>decide (j≠n193)) (fun j=>wQ.getD j default) wQ.length)→(∃(Un:aa) (Ib:Int),bn ⟨(St.new (St.new (St.new Go.Ev.start 0 (.cells 18 [] (an (ak.cells c) .leaf 0) true false)) 1 (.cells 3 [] (an [.str ((l.getD 0 default).f0),.int .i64 ((l.getD 0 default).f1),.own 3 n194 7] .leaf 0) true false)) 3 (.row n194 Um 7 false)).heap,4⟩ [.agg [.str ((l.getD 0 default).f0),.int .i64 ((l.getD 0 default).f1),.own 3 n194 7],.int .i64 (0:Int)] [aa.enc Un,.int .i64 Ib]∧(Ib=0→Q (.tuple [.own 4 (1) 3,.int .i64 (0:Int)]) ⟨(St.new Go.Ev.start 4 (.row (1) (fun i=>aa.enc (([Un]).getD i default)) 3 false)).heap,5⟩)∧(Ib≠0→Q (.tuple [.ai,.int .i64 Ib]) ⟨Go.Ev.start.heap,4⟩))))))))):=by kernel_rfl
def Uo [Env] (vs:List V) (σ:St) (k:ah):Prop:=
 ∃(c:ak) (l:List aa),bn σ vs [ak.enc c,af aa.enc 3 l]∧(e7 c∧c.f0=3∧c.f7.length≤1000000∧1≤l.length∧l.length≤16∧∀t∈l,dY t∧bB t=0)∧(kE c (l.getD 0 default) (l.getD 1 default)=0→k (.tuple [.own σ.next (kT c (l.getD 0 default)).length 3,.int .i64 0]) ((void σ.next).new σ.next (.row (kT c (l.getD 0 default)).length (fun i=>aa.enc ((kT c (l.getD 0 default)).getD i default)) 3 false)))∧(kE c (l.getD 0 default) (l.getD 1 default)≠0→k (.tuple [.ai,.int .i64 (kE c (l.getD 0 default) (l.getD 1 default))]) (void σ.next))
def Ic [Env]:=kS 306 Uo H9
def F3:Nat→List Nat:=(fun _=>[])
abbrev M3 [Env] (A:Nat→List SV→Prop) (Q:V→St→Prop) (c:ak) (l:List aa):Prop:=
 (∃b0:List aj,[af aj.enc 7 ((l.getD 0 default).f2)]=[af aj.enc 7 b0]∧(0<b0.length∧b0.length≤1000)∧ae (V.beq (.str c.f3) (.str c.f3)&&true) ((∃(b1:aa) (b2:Int),bn ⟨(St.new (St.new (St.new Go.Ev.start 0 (.cells 18 [] (an (ak.cells c) .leaf 0) true false)) 1 (.cells 3 [] (an [.str c.f3,.int .i64 ((l.getD 0 default).f1),.own 32 b0.length 7] .leaf 0) true false)) 32 (.row b0.length (fun i=>aj.enc (b0.getD i default)) 7 false)).heap,33⟩ [.agg [.str c.f3,.int .i64 ((l.getD 0 default).f1),.own 32 b0.length 7],.int .i64 (aP c.f3)] [aa.enc b1,.int .i64 b2]∧(b2=0→Q (.tuple [.own 33 (1) 3,.int .i64 (0:Int)]) ⟨(St.new Go.Ev.start 33 (.row (1) (fun i=>aa.enc (([b1]).getD i default)) 3 false)).heap,34⟩)∧(b2≠0→Q (.tuple [.ai,.int .i64 b2]) ⟨Go.Ev.start.heap,33⟩))) False)
abbrev M4 [Env] (A:Nat→List SV→Prop) (Q:V→St→Prop) (c:ak) (l:List aa):Prop:=
 (∃b0:List aj,[af aj.enc 7 ((l.getD 0 default).f2)]=[af aj.enc 7 b0]∧(0<b0.length∧b0.length≤1000)∧ae (V.beq (.str c.f3) (.str c.f3)&&true) ((∃(b1:aa) (b2:Int),bn ⟨(St.new (St.new (St.new Go.Ev.start 0 (.cells 18 [] (an (ak.cells c) .leaf 0) true false)) 1 (.cells 3 [] (an [.str c.f3,.int .i64 ((l.getD 0 default).f1),.own 32 b0.length 7] .leaf 0) true false)) 32 (.row b0.length (fun i=>aj.enc (b0.getD i default)) 7 false)).heap,33⟩ [.agg [.str c.f3,.int .i64 ((l.getD 0 default).f1),.own 32 b0.length 7],.int .i64 (11:Int)] [aa.enc b1,.int .i64 b2]∧(b2=0→Q (.tuple [.own 33 (1) 3,.int .i64 (0:Int)]) ⟨(St.new Go.Ev.start 33 (.row (1) (fun i=>aa.enc (([b1]).getD i default)) 3 false)).heap,34⟩)∧(b2≠0→Q (.tuple [.ai,.int .i64 b2]) ⟨Go.Ev.start.heap,33⟩))) False)
theorem aav [Env] (A:Nat→List SV→Prop) (Q:V→St→Prop) (c:ak) (l:List aa):WE Tryz.prog 314 Tryz.f314 Ic 0 F3 A Q [ak.enc c,af aa.enc 3 l] Go.Ev.start=
  (ae (decide (c.f1=c.f2)) (Q (.tuple [.ai,.int .i64 (12:Int)]) ⟨(St.new Go.Ev.start 0 (.cells 18 [] (an (ak.cells c) .leaf 0) true false)).heap,1⟩) (((0≤(0:Int)∧(0:Int)<((l.length:Nat):Int))∧((.i64:IntKind)=.i64∧ae (decide ((aP c.f3)=(0:Int))) (((0≤(1:Int)∧(1:Int)<((l.length:Nat):Int))∧((.i64:IntKind)=.i64∧ae (decide (((l.getD 0 default).f1)≠((l.getD 1 default).f1))) ((M4 A Q c l)) (((0≤(1:Int)∧(1:Int)<((l.length:Nat):Int))∧(∃M5 Up:List aj,[af aj.enc 7 ((l.getD 0 default).f2),af aj.enc 7 ((l.getD 1 default).f2)]=[af aj.enc 7 M5,af aj.enc 7 Up]∧M5.length≤1000000∧∀Uq:Bool,(Uq=true↔M5=Up)→ae ((!Uq)) ((M4 A Q c l)) ((M3 A Q c l)))))))) ((M3 A Q c l)))))):=by kernel_rfl
def Ur [Env] (vs:List V) (σ:St) (k:ah):Prop:=
 ∃(c:ak) (l:List aa),bn σ vs [ak.enc c,af aa.enc 3 l]∧(e7 c∧c.f0=6∧c.f7.length≤1000000∧2≤l.length∧l.length≤16∧∀t∈l,dY t∧bB t=0)∧(kE c (l.getD 0 default) (l.getD 1 default)=0→k (.tuple [.own σ.next (kT c (l.getD 0 default)).length 3,.int .i64 0]) ((void σ.next).new σ.next (.row (kT c (l.getD 0 default)).length (fun i=>aa.enc ((kT c (l.getD 0 default)).getD i default)) 3 false)))∧(kE c (l.getD 0 default) (l.getD 1 default)≠0→k (.tuple [.ai,.int .i64 (kE c (l.getD 0 default) (l.getD 1 default))]) (void σ.next))
def jD [Env]:=kS 314 Ur Ic
end Go.Proofs.YtbajncpfmemdgaaGreatDoor
end
section
namespace Go.Proofs.YtbajncpfmemdgaaGreatDoor
open Go Go.Ev
def fy:Nat→List Nat:=(fun i=>match i with | 0=>[2,6,35,36,37] | 1=>[2,6,10,69,70,71] | 2=>[2,6,10,11,12,13,69,70,71,82,83] | _=>[])
theorem aaw [Env] (A:Nat→List SV→Prop) (Q:V→St→Prop) (c:ak) (l:List aa):WE Tryz.prog 311 Tryz.f311 jD 0 fy A Q [ak.enc c,af aa.enc 3 l] Go.Ev.start=
  (((0≤(0:Int)∧(0:Int)<((l.length:Nat):Int))∧ae (V.beq (.str c.f4) (.str c.f4)&&true) ((∃Ie:List Int,bn ⟨(St.new (St.new (St.new Go.Ev.start 0 (.cells 18 [] (an (ak.cells c) .leaf 0) true false)) 1 (.cells 3 [] (an (aa.cells (l.getD 0 default)) .leaf 0) true false)) 8 (.cells 2 [] (an [.int .i64 (aP c.f3),.int .i64 (aP c.f4)] .leaf 0) true false)).heap,11⟩ [.slice 8 0 (2) (2) true 1] [af (V.int .i64) 1 Ie]∧Ie.length≤1000∧((.i64:IntKind)=.i64∧ae (decide ((OL Ie)≠(0:Int))) (Q (.tuple [.ai,.int .i64 (OL Ie)]) ⟨(St.new (St.new (St.new Go.Ev.start 0 (.cells 18 [] (an (ak.cells c) .leaf 0) true false)) 1 (.cells 3 [] (an (aa.cells (l.getD 0 default)) .leaf 0) true false)) 8 (.cells 2 [] (an [.int .i64 (aP c.f3),.int .i64 (aP c.f4)] .leaf 0) true false)).heap,11⟩) (ae (decide (c.f3=c.f4)) (Q (.tuple [.ai,.int .i64 (12:Int)]) ⟨(St.new (St.new (St.new Go.Ev.start 0 (.cells 18 [] (an (ak.cells c) .leaf 0) true false)) 1 (.cells 3 [] (an (aa.cells (l.getD 0 default)) .leaf 0) true false)) 8 (.cells 2 [] (an [.int .i64 (aP c.f3),.int .i64 (aP c.f4)] .leaf 0) true false)).heap,11⟩) (A 0 [.box (ak.cells c),.box (aa.cells (l.getD 0 default)),.val (af V.str 1 c.f7),.val (.int .i64 (((c.f7.length:Nat):Int))),.val (.int .i64 (0:Int))]))))) False)):=by kernel_rfl
theorem Wa [Env] (A:Nat→List SV→Prop) (Q:V→St→Prop) (c:ak) (t:aa) (m i:Int):WL Tryz.prog 311 Tryz.f311 jD 0 fy A Q 0 [.box (ak.cells c),.box (aa.cells t),.val (af V.str 1 c.f7),.val (.int .i64 m),.val (.int .i64 i)]=
  (((.i64:IntKind)=.i64∧ae (decide (i<m)) (((0≤i∧i<((c.f7.length:Nat):Int))∧(∃(M6:aa) (Us:List UInt8),[.agg (aa.cells t),.str ((c.f7.getD i.toNat default))]=[aa.enc M6,.str Us]∧M6.f2.length≤1000∧ae (V.beq (.int .i64 t.f1) (.int .i64 t.f1)&&true) (((.i64:IntKind)=.i64∧ae (decide ((bA M6 Us)<t.f1)) (Q (.tuple [.ai,.int .i64 (10:Int)]) ⟨(St.new (St.new Go.Ev.start 0 (.cells 18 [] (an (ak.cells c) .leaf 0) false false)) 1 (.cells 3 [] (an (aa.cells t) .leaf 0) false false)).heap,16⟩) ((∃Ut:Nat→List UInt8,(fun i=>V.str (c.f7.getD i default))=(fun i=>V.str (Ut i))∧c.f7.length≤1000000∧((.i64:IntKind)=.i64∧ae (decide ((cb ((c.f7.getD i.toNat default)) Ut c.f7.length)≠i)) (Q (.tuple [.ai,.int .i64 (10:Int)]) ⟨(St.new (St.new Go.Ev.start 0 (.cells 18 [] (an (ak.cells c) .leaf 0) false false)) 1 (.cells 3 [] (an (aa.cells t) .leaf 0) false false)).heap,16⟩) (A 0 [.box (ak.cells c),.box (aa.cells t),.val (af V.str 1 c.f7),.val (.int .i64 m),.val (.int .i64 (IntKind.i64.wrap (i+(1:Int))))])))))) False))) (A 1 [.box (ak.cells c),.box (aa.cells t),.nest (.sl (2) (2) 3 true) [.val (.str c.f3),.val (.int .i64 t.f1),.val (.ai),.val (.str c.f4),.val (.int .i64 t.f1),.val (.ai)],.val (af aj.enc 7 t.f2),.val (.int .i64 (((t.f2.length:Nat):Int))),.val (.int .i64 (0:Int))]))):=by kernel_rfl
theorem Wb [Env] (A:Nat→List SV→Prop) (Q:V→St→Prop) (c:ak) (t:aa) (m i:Int):WL Tryz.prog 311 Tryz.f311 jD 0 fy A Q 1 [.box (ak.cells c),.box (aa.cells t),.nest (.sl (2) (2) 3 true) [.val (.str c.f3),.val (.int .i64 t.f1),.val (.ai),.val (.str c.f4),.val (.int .i64 t.f1),.val (.ai)],.val (af aj.enc 7 t.f2),.val (.int .i64 m),.val (.int .i64 i)]=
  (((.i64:IntKind)=.i64∧ae (decide (i<m)) (((0≤i∧i<((t.f2.length:Nat):Int))∧(∃Uu:Nat→List UInt8,(fun i=>V.str (c.f7.getD i default))=(fun i=>V.str (Uu i))∧c.f7.length≤1000000∧A 2 [.box (ak.cells c),.box (aa.cells t),.nest (.sl (2) (2) 3 true) [.val (.str c.f3),.val (.int .i64 t.f1),.val (.ai),.val (.str c.f4),.val (.int .i64 t.f1),.val (.ai)],.val (.int .i64 i),.box (aj.cells (t.f2.getD i.toNat default)),.val (.bool (decide (0≤cb ((t.f2.getD i.toNat default).f0) Uu c.f7.length))),.val (af aj.enc 7 t.f2),.val (.int .i64 m),.val (.int .i64 i),.val (.int .i64 (2:Int)),.val (.int .i64 (0:Int))]))) (Q (.tuple [.slice 2 0 (2) (2) true 3,.int .i64 (0:Int)]) ⟨(St.new (St.new (St.new Go.Ev.start 0 (.cells 18 [] (an (ak.cells c) .leaf 0) false false)) 1 (.cells 3 [] (an (aa.cells t) .leaf 0) false false)) 2 (.cells 6 [] (an [.str c.f3,.int .i64 t.f1,.ai,.str c.f4,.int .i64 t.f1,.ai] .leaf 0) false false)).heap,3⟩))):=by kernel_rfl
theorem Wc [Env] (A:Nat→List SV→Prop) (Q:V→St→Prop) (c:ak) (t:aa) (m i:Int) (a b:Nat) (f g:Nat→V):WL Tryz.prog 311 Tryz.f311 jD 0 fy A Q 1 [.box (ak.cells c),.box (aa.cells t),.nest (.sl (2) (2) 3 true) [.val (.str c.f3),.val (.int .i64 t.f1),.row a f 7,.val (.str c.f4),.val (.int .i64 t.f1),.row b g 7],.val (af aj.enc 7 t.f2),.val (.int .i64 m),.val (.int .i64 i)]=
  (((.i64:IntKind)=.i64∧ae (decide (i<m)) (((0≤i∧i<((t.f2.length:Nat):Int))∧(∃Uv:Nat→List UInt8,(fun i=>V.str (c.f7.getD i default))=(fun i=>V.str (Uv i))∧c.f7.length≤1000000∧((a=a∧7=7)∧((b=b∧7=7)∧A 2 [.box (ak.cells c),.box (aa.cells t),.nest (.sl (2) (2) 3 true) [.val (.str c.f3),.val (.int .i64 t.f1),.row a f 7,.val (.str c.f4),.val (.int .i64 t.f1),.row b g 7],.val (.int .i64 i),.box (aj.cells (t.f2.getD i.toNat default)),.val (.bool (decide (0≤cb ((t.f2.getD i.toNat default).f0) Uv c.f7.length))),.val (af aj.enc 7 t.f2),.val (.int .i64 m),.val (.int .i64 i),.val (.int .i64 (2:Int)),.val (.int .i64 (0:Int))]))))) (Q (.tuple [.slice 2 0 (2) (2) true 3,.int .i64 (0:Int)]) ⟨(St.new (St.new (St.new (St.new (St.new Go.Ev.start 0 (.cells 18 [] (an (ak.cells c) .leaf 0) false false)) 1 (.cells 3 [] (an (aa.cells t) .leaf 0) false false)) 2 (.cells 6 [] (an [.str c.f3,.int .i64 t.f1,.own 3 a 7,.str c.f4,.int .i64 t.f1,.own 4 b 7] .leaf 0) false false)) 3 (.row a f 7 false)) 4 (.row b g 7 false)).heap,5⟩))):=by kernel_rfl
abbrev M7 [Env] (A:Nat→List SV→Prop) (Q:V→St→Prop) (c:ak) (t:aa) (x:aj) (u m i:Int):Prop:=
 (((1:Nat)=1∧(1:Nat)=1∧1*7=1*7)∧A 2 [.box (ak.cells c),.box (aa.cells t),.nest (.sl (2) (2) 3 true) [.val (.str c.f3),.val (.int .i64 t.f1),.row 1 (fun _=>.agg (aj.cells x)) 7,.val (.str c.f4),.val (.int .i64 t.f1),.val (.ai)],.val (.int .i64 u),.box (aj.cells x),.val (.bool false),.val (af aj.enc 7 t.f2),.val (.int .i64 m),.val (.int .i64 i),.val (.int .i64 (2:Int)),.val (.int .i64 (1:Int))])
abbrev M8 [Env] (A:Nat→List SV→Prop) (Q:V→St→Prop) (c:ak) (t:aa) (x:aj) (u m i:Int):Prop:=
 (((1:Nat)=1∧(1:Nat)=1∧1*7=1*7)∧A 2 [.box (ak.cells c),.box (aa.cells t),.nest (.sl (2) (2) 3 true) [.val (.str c.f3),.val (.int .i64 t.f1),.row 1 (fun _=>.agg (aj.cells x)) 7,.val (.str c.f4),.val (.int .i64 t.f1),.val (.ai)],.val (.int .i64 u),.box (aj.cells x),.val (.bool true),.val (af aj.enc 7 t.f2),.val (.int .i64 m),.val (.int .i64 i),.val (.int .i64 (2:Int)),.val (.int .i64 (1:Int))])
theorem Qd [Env] (A:Nat→List SV→Prop) (Q:V→St→Prop) (c:ak) (t:aa) (x:aj) (u m i:Int):WL Tryz.prog 311 Tryz.f311 jD 0 fy A Q 2 [.box (ak.cells c),.box (aa.cells t),.nest (.sl (2) (2) 3 true) [.val (.str c.f3),.val (.int .i64 t.f1),.val (.ai),.val (.str c.f4),.val (.int .i64 t.f1),.val (.ai)],.val (.int .i64 u),.box (aj.cells x),.val (.bool true),.val (af aj.enc 7 t.f2),.val (.int .i64 m),.val (.int .i64 i),.val (.int .i64 (2:Int)),.val (.int .i64 (0:Int))]=
  (((.i64:IntKind)=.i64∧((.i64:IntKind)=.i64∧ae (decide (u<t.f1)) ((M8 A Q c t x u m i)) (((.i64:IntKind)=.i64∧ae ((true==true)) ((M8 A Q c t x u m i)) (A 2 [.box (ak.cells c),.box (aa.cells t),.nest (.sl (2) (2) 3 true) [.val (.str c.f3),.val (.int .i64 t.f1),.val (.ai),.val (.str c.f4),.val (.int .i64 t.f1),.val (.ai)],.val (.int .i64 u),.box (aj.cells x),.val (.bool true),.val (af aj.enc 7 t.f2),.val (.int .i64 m),.val (.int .i64 i),.val (.int .i64 (2:Int)),.val (.int .i64 (1:Int))])))))):=by kernel_rfl
theorem Qe [Env] (A:Nat→List SV→Prop) (Q:V→St→Prop) (c:ak) (t:aa) (x:aj) (u m i:Int):WL Tryz.prog 311 Tryz.f311 jD 0 fy A Q 2 [.box (ak.cells c),.box (aa.cells t),.nest (.sl (2) (2) 3 true) [.val (.str c.f3),.val (.int .i64 t.f1),.val (.ai),.val (.str c.f4),.val (.int .i64 t.f1),.val (.ai)],.val (.int .i64 u),.box (aj.cells x),.val (.bool false),.val (af aj.enc 7 t.f2),.val (.int .i64 m),.val (.int .i64 i),.val (.int .i64 (2:Int)),.val (.int .i64 (0:Int))]=
  (((.i64:IntKind)=.i64∧((.i64:IntKind)=.i64∧ae (decide (u<t.f1)) ((M7 A Q c t x u m i)) (((.i64:IntKind)=.i64∧ae ((false==true)) ((M7 A Q c t x u m i)) (A 2 [.box (ak.cells c),.box (aa.cells t),.nest (.sl (2) (2) 3 true) [.val (.str c.f3),.val (.int .i64 t.f1),.val (.ai),.val (.str c.f4),.val (.int .i64 t.f1),.val (.ai)],.val (.int .i64 u),.box (aj.cells x),.val (.bool false),.val (af aj.enc 7 t.f2),.val (.int .i64 m),.val (.int .i64 i),.val (.int .i64 (2:Int)),.val (.int .i64 (1:Int))])))))):=by kernel_rfl
abbrev M9 [Env] (A:Nat→List SV→Prop) (Q:V→St→Prop) (c:ak) (t:aa) (x:aj) (u m i:Int) (a:Nat) (f:Nat→V):Prop:=
 ((a=a∧7=7)∧(((1:Nat)=1∧(1:Nat)=1∧1*7=1*7)∧A 2 [.box (ak.cells c),.box (aa.cells t),.nest (.sl (2) (2) 3 true) [.val (.str c.f3),.val (.int .i64 t.f1),.row a f 7,.val (.str c.f4),.val (.int .i64 t.f1),.row 1 (fun _=>.agg (aj.cells x)) 7],.val (.int .i64 u),.box (aj.cells x),.val (.bool false),.val (af aj.enc 7 t.f2),.val (.int .i64 m),.val (.int .i64 i),.val (.int .i64 (2:Int)),.val (.int .i64 (2:Int))]))
abbrev Na [Env] (A:Nat→List SV→Prop) (Q:V→St→Prop) (c:ak) (t:aa) (x:aj) (u m i:Int) (a:Nat) (f:Nat→V):Prop:=
 ((a=a∧7=7)∧(((1:Nat)=1∧(1:Nat)=1∧1*7=1*7)∧A 2 [.box (ak.cells c),.box (aa.cells t),.nest (.sl (2) (2) 3 true) [.val (.str c.f3),.val (.int .i64 t.f1),.row a f 7,.val (.str c.f4),.val (.int .i64 t.f1),.row 1 (fun _=>.agg (aj.cells x)) 7],.val (.int .i64 u),.box (aj.cells x),.val (.bool true),.val (af aj.enc 7 t.f2),.val (.int .i64 m),.val (.int .i64 i),.val (.int .i64 (2:Int)),.val (.int .i64 (2:Int))]))
theorem Qf [Env] (A:Nat→List SV→Prop) (Q:V→St→Prop) (c:ak) (t:aa) (x:aj) (u m i:Int) (a:Nat) (f:Nat→V):WL Tryz.prog 311 Tryz.f311 jD 0 fy A Q 2 [.box (ak.cells c),.box (aa.cells t),.nest (.sl (2) (2) 3 true) [.val (.str c.f3),.val (.int .i64 t.f1),.row a f 7,.val (.str c.f4),.val (.int .i64 t.f1),.val (.ai)],.val (.int .i64 u),.box (aj.cells x),.val (.bool true),.val (af aj.enc 7 t.f2),.val (.int .i64 m),.val (.int .i64 i),.val (.int .i64 (2:Int)),.val (.int .i64 (1:Int))]=
  (((.i64:IntKind)=.i64∧((.i64:IntKind)=.i64∧ae (decide (u<t.f1)) ((Na A Q c t x u m i a f)) (((.i64:IntKind)=.i64∧ae ((true==false)) ((Na A Q c t x u m i a f)) (((a=a∧7=7)∧A 2 [.box (ak.cells c),.box (aa.cells t),.nest (.sl (2) (2) 3 true) [.val (.str c.f3),.val (.int .i64 t.f1),.row a f 7,.val (.str c.f4),.val (.int .i64 t.f1),.val (.ai)],.val (.int .i64 u),.box (aj.cells x),.val (.bool true),.val (af aj.enc 7 t.f2),.val (.int .i64 m),.val (.int .i64 i),.val (.int .i64 (2:Int)),.val (.int .i64 (2:Int))]))))))):=by kernel_rfl
theorem Qg [Env] (A:Nat→List SV→Prop) (Q:V→St→Prop) (c:ak) (t:aa) (x:aj) (u m i:Int) (a:Nat) (f:Nat→V):WL Tryz.prog 311 Tryz.f311 jD 0 fy A Q 2 [.box (ak.cells c),.box (aa.cells t),.nest (.sl (2) (2) 3 true) [.val (.str c.f3),.val (.int .i64 t.f1),.row a f 7,.val (.str c.f4),.val (.int .i64 t.f1),.val (.ai)],.val (.int .i64 u),.box (aj.cells x),.val (.bool false),.val (af aj.enc 7 t.f2),.val (.int .i64 m),.val (.int .i64 i),.val (.int .i64 (2:Int)),.val (.int .i64 (1:Int))]=
  (((.i64:IntKind)=.i64∧((.i64:IntKind)=.i64∧ae (decide (u<t.f1)) ((M9 A Q c t x u m i a f)) (((.i64:IntKind)=.i64∧ae ((false==false)) ((M9 A Q c t x u m i a f)) (((a=a∧7=7)∧A 2 [.box (ak.cells c),.box (aa.cells t),.nest (.sl (2) (2) 3 true) [.val (.str c.f3),.val (.int .i64 t.f1),.row a f 7,.val (.str c.f4),.val (.int .i64 t.f1),.val (.ai)],.val (.int .i64 u),.box (aj.cells x),.val (.bool false),.val (af aj.enc 7 t.f2),.val (.int .i64 m),.val (.int .i64 i),.val (.int .i64 (2:Int)),.val (.int .i64 (2:Int))]))))))):=by kernel_rfl
abbrev Nb [Env] (A:Nat→List SV→Prop) (Q:V→St→Prop) (c:ak) (t:aa) (x:aj) (u m i:Int) (a b:Nat) (f g:Nat→V):Prop:=
 ((a=a∧(a+1)*72≤1099511627776)∧(((a+1)=(a+1)∧7=7)∧((b=b∧7=7)∧A 2 [.box (ak.cells c),.box (aa.cells t),.nest (.sl (2) (2) 3 true) [.val (.str c.f3),.val (.int .i64 t.f1),.row (a+1) (dU a f (fun _=>.agg (aj.cells x))) 7,.val (.str c.f4),.val (.int .i64 t.f1),.row b g 7],.val (.int .i64 u),.box (aj.cells x),.val (.bool false),.val (af aj.enc 7 t.f2),.val (.int .i64 m),.val (.int .i64 i),.val (.int .i64 (2:Int)),.val (.int .i64 (1:Int))])))
abbrev Nc [Env] (A:Nat→List SV→Prop) (Q:V→St→Prop) (c:ak) (t:aa) (x:aj) (u m i:Int) (a b:Nat) (f g:Nat→V):Prop:=
 ((b=b∧(b+1)*72≤1099511627776)∧((a=a∧7=7)∧(((b+1)=(b+1)∧7=7)∧A 2 [.box (ak.cells c),.box (aa.cells t),.nest (.sl (2) (2) 3 true) [.val (.str c.f3),.val (.int .i64 t.f1),.row a f 7,.val (.str c.f4),.val (.int .i64 t.f1),.row (b+1) (dU b g (fun _=>.agg (aj.cells x))) 7],.val (.int .i64 u),.box (aj.cells x),.val (.bool false),.val (af aj.enc 7 t.f2),.val (.int .i64 m),.val (.int .i64 i),.val (.int .i64 (2:Int)),.val (.int .i64 (2:Int))])))
abbrev Nd [Env] (A:Nat→List SV→Prop) (Q:V→St→Prop) (c:ak) (t:aa) (x:aj) (u m i:Int) (a b:Nat) (f g:Nat→V):Prop:=
 ((a=a∧(a+1)*72≤1099511627776)∧(((a+1)=(a+1)∧7=7)∧((b=b∧7=7)∧A 2 [.box (ak.cells c),.box (aa.cells t),.nest (.sl (2) (2) 3 true) [.val (.str c.f3),.val (.int .i64 t.f1),.row (a+1) (dU a f (fun _=>.agg (aj.cells x))) 7,.val (.str c.f4),.val (.int .i64 t.f1),.row b g 7],.val (.int .i64 u),.box (aj.cells x),.val (.bool true),.val (af aj.enc 7 t.f2),.val (.int .i64 m),.val (.int .i64 i),.val (.int .i64 (2:Int)),.val (.int .i64 (1:Int))])))
abbrev Nf [Env] (A:Nat→List SV→Prop) (Q:V→St→Prop) (c:ak) (t:aa) (x:aj) (u m i:Int) (a b:Nat) (f g:Nat→V):Prop:=
 ((b=b∧(b+1)*72≤1099511627776)∧((a=a∧7=7)∧(((b+1)=(b+1)∧7=7)∧A 2 [.box (ak.cells c),.box (aa.cells t),.nest (.sl (2) (2) 3 true) [.val (.str c.f3),.val (.int .i64 t.f1),.row a f 7,.val (.str c.f4),.val (.int .i64 t.f1),.row (b+1) (dU b g (fun _=>.agg (aj.cells x))) 7],.val (.int .i64 u),.box (aj.cells x),.val (.bool true),.val (af aj.enc 7 t.f2),.val (.int .i64 m),.val (.int .i64 i),.val (.int .i64 (2:Int)),.val (.int .i64 (2:Int))])))
abbrev Ig [Env] (A:Nat→List SV→Prop) (Q:V→St→Prop) (c:ak) (t:aa) (x:aj) (u m i:Int) (a b:Nat) (f g:Nat→V) (p0:Int):Prop:=
 ((a=a∧7=7)∧((b=b∧7=7)∧A 2 [.box (ak.cells c),.box (aa.cells t),.nest (.sl (2) (2) 3 true) [.val (.str c.f3),.val (.int .i64 t.f1),.row a f 7,.val (.str c.f4),.val (.int .i64 t.f1),.row b g 7],.val (.int .i64 u),.box (aj.cells x),.val (.bool false),.val (af aj.enc 7 t.f2),.val (.int .i64 m),.val (.int .i64 i),.val (.int .i64 (2:Int)),.val (.int .i64 (p0:Int))]))
abbrev Ih [Env] (A:Nat→List SV→Prop) (Q:V→St→Prop) (c:ak) (t:aa) (x:aj) (u m i:Int) (a b:Nat) (f g:Nat→V) (p0:Int):Prop:=
 ((a=a∧7=7)∧((b=b∧7=7)∧A 2 [.box (ak.cells c),.box (aa.cells t),.nest (.sl (2) (2) 3 true) [.val (.str c.f3),.val (.int .i64 t.f1),.row a f 7,.val (.str c.f4),.val (.int .i64 t.f1),.row b g 7],.val (.int .i64 u),.box (aj.cells x),.val (.bool true),.val (af aj.enc 7 t.f2),.val (.int .i64 m),.val (.int .i64 i),.val (.int .i64 (2:Int)),.val (.int .i64 (p0:Int))]))
abbrev Ii [Env] (A:Nat→List SV→Prop) (Q:V→St→Prop) (c:ak) (t:aa) (x:aj) (u m i:Int) (a b:Nat) (f g:Nat→V):Prop:=
 ((.i64:IntKind)=.i64∧((a=a∧7=7)∧((b=b∧7=7)∧A 1 [.box (ak.cells c),.box (aa.cells t),.nest (.sl (2) (2) 3 true) [.val (.str c.f3),.val (.int .i64 t.f1),.row a f 7,.val (.str c.f4),.val (.int .i64 t.f1),.row b g 7],.val (af aj.enc 7 t.f2),.val (.int .i64 m),.val (.int .i64 (IntKind.i64.wrap (i+(1:Int))))])))
theorem Qh [Env] (A:Nat→List SV→Prop) (Q:V→St→Prop) (c:ak) (t:aa) (x:aj) (u m i:Int) (a b:Nat) (f g:Nat→V):WL Tryz.prog 311 Tryz.f311 jD 0 fy A Q 2 [.box (ak.cells c),.box (aa.cells t),.nest (.sl (2) (2) 3 true) [.val (.str c.f3),.val (.int .i64 t.f1),.row a f 7,.val (.str c.f4),.val (.int .i64 t.f1),.row b g 7],.val (.int .i64 u),.box (aj.cells x),.val (.bool true),.val (af aj.enc 7 t.f2),.val (.int .i64 m),.val (.int .i64 i),.val (.int .i64 (2:Int)),.val (.int .i64 (0:Int))]=
  (((.i64:IntKind)=.i64∧((.i64:IntKind)=.i64∧ae (decide (u<t.f1)) ((Nd A Q c t x u m i a b f g)) (((.i64:IntKind)=.i64∧ae ((true==true)) ((Nd A Q c t x u m i a b f g)) ((Ih A Q c t x u m i a b f g 1))))))):=by kernel_rfl
theorem Qi [Env] (A:Nat→List SV→Prop) (Q:V→St→Prop) (c:ak) (t:aa) (x:aj) (u m i:Int) (a b:Nat) (f g:Nat→V):WL Tryz.prog 311 Tryz.f311 jD 0 fy A Q 2 [.box (ak.cells c),.box (aa.cells t),.nest (.sl (2) (2) 3 true) [.val (.str c.f3),.val (.int .i64 t.f1),.row a f 7,.val (.str c.f4),.val (.int .i64 t.f1),.row b g 7],.val (.int .i64 u),.box (aj.cells x),.val (.bool false),.val (af aj.enc 7 t.f2),.val (.int .i64 m),.val (.int .i64 i),.val (.int .i64 (2:Int)),.val (.int .i64 (0:Int))]=
  (((.i64:IntKind)=.i64∧((.i64:IntKind)=.i64∧ae (decide (u<t.f1)) ((Nb A Q c t x u m i a b f g)) (((.i64:IntKind)=.i64∧ae ((false==true)) ((Nb A Q c t x u m i a b f g)) ((Ig A Q c t x u m i a b f g 1))))))):=by kernel_rfl
theorem Qj [Env] (A:Nat→List SV→Prop) (Q:V→St→Prop) (c:ak) (t:aa) (x:aj) (u m i:Int) (a b:Nat) (f g:Nat→V):WL Tryz.prog 311 Tryz.f311 jD 0 fy A Q 2 [.box (ak.cells c),.box (aa.cells t),.nest (.sl (2) (2) 3 true) [.val (.str c.f3),.val (.int .i64 t.f1),.row a f 7,.val (.str c.f4),.val (.int .i64 t.f1),.row b g 7],.val (.int .i64 u),.box (aj.cells x),.val (.bool true),.val (af aj.enc 7 t.f2),.val (.int .i64 m),.val (.int .i64 i),.val (.int .i64 (2:Int)),.val (.int .i64 (1:Int))]=
  (((.i64:IntKind)=.i64∧((.i64:IntKind)=.i64∧ae (decide (u<t.f1)) ((Nf A Q c t x u m i a b f g)) (((.i64:IntKind)=.i64∧ae ((true==false)) ((Nf A Q c t x u m i a b f g)) ((Ih A Q c t x u m i a b f g 2))))))):=by kernel_rfl
theorem Qk [Env] (A:Nat→List SV→Prop) (Q:V→St→Prop) (c:ak) (t:aa) (x:aj) (u m i:Int) (a b:Nat) (f g:Nat→V):WL Tryz.prog 311 Tryz.f311 jD 0 fy A Q 2 [.box (ak.cells c),.box (aa.cells t),.nest (.sl (2) (2) 3 true) [.val (.str c.f3),.val (.int .i64 t.f1),.row a f 7,.val (.str c.f4),.val (.int .i64 t.f1),.row b g 7],.val (.int .i64 u),.box (aj.cells x),.val (.bool false),.val (af aj.enc 7 t.f2),.val (.int .i64 m),.val (.int .i64 i),.val (.int .i64 (2:Int)),.val (.int .i64 (1:Int))]=
  (((.i64:IntKind)=.i64∧((.i64:IntKind)=.i64∧ae (decide (u<t.f1)) ((Nc A Q c t x u m i a b f g)) (((.i64:IntKind)=.i64∧ae ((false==false)) ((Nc A Q c t x u m i a b f g)) ((Ig A Q c t x u m i a b f g 2))))))):=by kernel_rfl
theorem Ql [Env] (A:Nat→List SV→Prop) (Q:V→St→Prop) (c:ak) (t:aa) (x:aj) (u m i:Int) (a b:Nat) (f g:Nat→V):WL Tryz.prog 311 Tryz.f311 jD 0 fy A Q 2 [.box (ak.cells c),.box (aa.cells t),.nest (.sl (2) (2) 3 true) [.val (.str c.f3),.val (.int .i64 t.f1),.row a f 7,.val (.str c.f4),.val (.int .i64 t.f1),.row b g 7],.val (.int .i64 u),.box (aj.cells x),.val (.bool true),.val (af aj.enc 7 t.f2),.val (.int .i64 m),.val (.int .i64 i),.val (.int .i64 (2:Int)),.val (.int .i64 (2:Int))]=
  ((Ii A Q c t x u m i a b f g)):=by kernel_rfl
theorem Qm [Env] (A:Nat→List SV→Prop) (Q:V→St→Prop) (c:ak) (t:aa) (x:aj) (u m i:Int) (a b:Nat) (f g:Nat→V):WL Tryz.prog 311 Tryz.f311 jD 0 fy A Q 2 [.box (ak.cells c),.box (aa.cells t),.nest (.sl (2) (2) 3 true) [.val (.str c.f3),.val (.int .i64 t.f1),.row a f 7,.val (.str c.f4),.val (.int .i64 t.f1),.row b g 7],.val (.int .i64 u),.box (aj.cells x),.val (.bool false),.val (af aj.enc 7 t.f2),.val (.int .i64 m),.val (.int .i64 i),.val (.int .i64 (2:Int)),.val (.int .i64 (2:Int))]=
  ((Ii A Q c t x u m i a b f g)):=by kernel_rfl
def Uw [Env] (vs:List V) (σ:St) (k:ah):Prop:=
 ∃(c:ak) (l:List aa),bn σ vs [ak.enc c,af aa.enc 3 l]∧(e7 c∧c.f0=5∧c.f7.length≤1000000∧1≤l.length∧l.length≤16∧∀t∈l,dY t∧bB t=0)∧(kE c (l.getD 0 default) (l.getD 1 default)=0→k (.tuple [.own σ.next (kT c (l.getD 0 default)).length 3,.int .i64 0]) ((void σ.next).new σ.next (.row (kT c (l.getD 0 default)).length (fun i=>aa.enc ((kT c (l.getD 0 default)).getD i default)) 3 false)))∧(kE c (l.getD 0 default) (l.getD 1 default)≠0→k (.tuple [.ai,.int .i64 (kE c (l.getD 0 default) (l.getD 1 default))]) (void σ.next))
def Ux [Env]:=kS 311 Uw jD
end Go.Proofs.YtbajncpfmemdgaaGreatDoor
end
section
namespace Go.Proofs.YtbajncpfmemdgaaGreatDoor
open Go Go.Ev Go.IntWalk
theorem F300:bS Tryz.prog 300 Tryz.f300:=.of (by kernel_rfl) (by kernel_rfl)
theorem F303:bS Tryz.prog 303 Tryz.f303:=.of (by kernel_rfl) (by kernel_rfl)
theorem F306:bS Tryz.prog 306 Tryz.f306:=.of (by kernel_rfl) (by kernel_rfl)
theorem F314:bS Tryz.prog 314 Tryz.f314:=.of (by kernel_rfl) (by kernel_rfl)
section
variable [Env]
omit [Env] in
theorem zq {c:ak} (h:c.f0=1) (t u:aa):kE c t u=bB c.f9:=if_pos h
omit [Env] in
theorem CI {c:ak} (h:c.f0=1) (t:aa):kT c t=[c.f9]:=if_pos h
omit [Env] in
theorem Ij {c:ak} (h:c.f0=2) (t u:aa):kE c t u=oO t c.f8:=by
 have h1:¬c.f0=1:=by omega
 unfold kE;rw[if_neg h1,if_pos h]
omit [Env] in
theorem CJ {c:ak} (h:c.f0=2) (t:aa):kT c t=[kF t c.f8]:=by
 have h1:¬c.f0=1:=by omega
 unfold kT;rw[if_neg h1,if_pos h]
omit [Env] in
theorem CK {c:ak} (h:c.f0=3) (t u:aa):kE c t u=yc t c.f5:=by
 have h1:¬c.f0=1:=by omega
 have h2:¬c.f0=2:=by omega
 unfold kE;rw[if_neg h1,if_neg h2,if_pos h]
omit [Env] in
theorem Ik {c:ak} (h:c.f0=3) (t:aa):kT c t=[yd t c.f5]:=by
 have h1:¬c.f0=1:=by omega
 have h2:¬c.f0=2:=by omega
 unfold kT;rw[if_neg h1,if_neg h2,if_pos h]
omit [Env] in
theorem Ng {c:ak} (h:c.f0=4) (t u:aa):kE c t u=Cw t c.f5 c.f6:=by
 have h1:¬c.f0=1:=by omega
 have h2:¬c.f0=2:=by omega
 have h3:¬c.f0=3:=by omega
 unfold kE;rw[if_neg h1,if_neg h2,if_neg h3,if_pos h]
omit [Env] in
theorem Nh {c:ak} (h:c.f0=4) (t:aa):kT c t=[Cx t c.f5 c.f6]:=by
 have h1:¬c.f0=1:=by omega
 have h2:¬c.f0=2:=by omega
 have h3:¬c.f0=3:=by omega
 unfold kT;rw[if_neg h1,if_neg h2,if_neg h3,if_pos h]
omit [Env] in
theorem Il {c:ak} (h:c.f0=5) (t u:aa):kE c t u=oP t c:=by
 have h1:¬c.f0=1:=by omega
 have h2:¬c.f0=2:=by omega
 have h3:¬c.f0=3:=by omega
 have h4:¬c.f0=4:=by omega
 unfold kE;rw[if_neg h1,if_neg h2,if_neg h3,if_neg h4,if_pos h]
omit [Env] in
theorem Im {c:ak} (h:c.f0=5) (t:aa):kT c t=oQ t c:=by
 have h1:¬c.f0=1:=by omega
 have h2:¬c.f0=2:=by omega
 have h3:¬c.f0=3:=by omega
 have h4:¬c.f0=4:=by omega
 unfold kT;rw[if_neg h1,if_neg h2,if_neg h3,if_neg h4,if_pos h]
omit [Env] in
theorem aax {c:ak} (h:c.f0=6) (t u:aa):kE c t u=zi t u c:=by
 have h1:¬c.f0=1:=by omega
 have h2:¬c.f0=2:=by omega
 have h3:¬c.f0=3:=by omega
 have h4:¬c.f0=4:=by omega
 have h5:¬c.f0=5:=by omega
 unfold kE;rw[if_neg h1,if_neg h2,if_neg h3,if_neg h4,if_neg h5]
omit [Env] in
theorem Ni {c:ak} (h:c.f0=6) (t:aa):kT c t=[Th t c]:=by
 have h1:¬c.f0=1:=by omega
 have h2:¬c.f0=2:=by omega
 have h3:¬c.f0=3:=by omega
 have h4:¬c.f0=4:=by omega
 have h5:¬c.f0=5:=by omega
 unfold kT;rw[if_neg h1,if_neg h2,if_neg h3,if_neg h4,if_neg h5]
structure vX (σ:St) (k:ah) (E:Int) (T:List aa):Prop where
 ok:E=0→k (.tuple [.own σ.next T.length 3,.int .i64 0]) ((void σ.next).new σ.next (.row T.length (fun i=>aa.enc (T.getD i default)) 3 false))
 bad:E≠0→k (.tuple [.ai,.int .i64 E]) (void σ.next)
variable {σ:St} {k:ah} {E:Int} {T:List aa}
theorem vX.err (h:vX σ k E T) {e:Int} (he:E=e) (h0:e≠0) {τ:St}:bk (void σ.next) k (.tuple [.ai,.int .i64 e]) τ:=by
 subst he;exact bk.ic (.tuple (.cons .ai (.cons (.int _ _) .nil))) (h.bad h0)
theorem vX.one (h:vX σ k E T) {t:aa} (hT:T=[t]) {e:Int} (he:E=e) {b nx nx':Nat} {H:Trie bR}:(e=0→bk (void σ.next) k (.tuple [.own b 1 3,.int .i64 0]) ⟨(St.new Go.Ev.start b (.row 1 (fun i=>aa.enc ([t].getD i default)) 3 false)).heap,nx⟩)∧
  (e≠0→bk (void σ.next) k (.tuple [.ai,.int .i64 e]) ⟨H,nx'⟩):=by
 subst he;subst hT
 refine⟨fun h0=>bk.pair (b:=b) (n:=1) (esz:=3) (g:=fun i=>aa.enc ([t].getD i default)) (.own (f:=fun i=>aa.enc ([t].getD i default)) (p:=false) ?_ fun i hi=>jP (aa.clean _)) (.int _ _) (h.ok h0),fun h0=>h.err rfl h0⟩
 show(St.new Go.Ev.start b _).heap.get b=_
 rw[ia,if_pos rfl]
theorem fi {τ:St} {s:List UInt8} {q e:Int} {b n:Nat} {f:Nat→V} {p:Bool} {L:List aj} (hb:τ.heap.get b=some (.row n f 7 p)) (hr:bC n f L):bn τ [.agg [.str s,.int .i64 q,.own b n 7],.int .i64 e] [aa.enc ⟨s,q,L⟩,.int .i64 e]:=by
 obtain⟨rfl,h⟩:=hr
 refine .cons (.agg (.cons (.str _) (.cons (.int _ _) (.cons (.own (g:=fun i=>aj.enc (L.getD i default)) hb (fun i hi=>?_) fun i hi=>rfl) .nil)))) (.cons (.int _ _) .nil)
 rw[h i hi];exact jP (aj.clean _)
omit [Env] in
theorem bC.of (l:List aj):bC l.length (fun i=>aj.enc (l.getD i default)) l:=⟨rfl,fun _ _=>rfl⟩
omit [Env] in
theorem cB {b:Bool} {A B:Prop} (hb:b=true) (h:A):ae b A B:=ae.mk (fun _=>h) fun h'=>by rw[hb] at h';cases h'
variable [aE] {vs:List V}
omit [Env] [aE] in
theorem dY.ie {t:aa} (h:dY t):ie t:=fun c hc=>(h c hc).1
theorem Qn (h:Uf vs σ k):ag Tryz.prog 300 vs k σ:=by
 obtain⟨c,l,hf,⟨hc,h0,_,_,_,ht⟩,hk,eA⟩:=h
 have ho:vX σ k _ _:=⟨hk,eA⟩
 refine ag.mj hf (F300.cg (live:=F1) (call:=H7) (fun h=>F0 h) (by kernel_rfl) ?_)
 rw[aat]
 refine⟨c.f9,rfl,dY.ie hc.2,cB (by simp [V.beq,V.gz,aa.cells,af]) ⟨c.f9,bB c.f9,.cons (.clean c.f9.aG) (.cons (.int _ _) .nil),?_⟩⟩
 exact ho.one (CI h0 _) (zq h0 _ _)
theorem F4:∀ {f:FuncId} {vs:List V} {σ:St} {k:ah},CD f vs σ k→ag Tryz.prog f vs k σ:=fun h=>aR Qn F0 h
omit [Env] [aE] in
theorem Kv {t:aa} {c:aj} (h:bV c≠0):oO t c=bV c:=if_pos h
omit [Env] [aE] in
theorem Kw {t:aa} {c:aj} (h:¬bV c≠0) (h2:0≤bA t c.f0):oO t c=12:=(if_neg h).trans (if_pos h2)
omit [Env] [aE] in
theorem Kx {t:aa} {c:aj} (h:¬bV c≠0) (h2:¬ 0≤bA t c.f0) (h3:8≤t.f2.length):oO t c=2:=((if_neg h).trans (if_neg h2)).trans (if_pos h3)
omit [Env] [aE] in
theorem Uy {t:aa} {c:aj} (h:¬bV c≠0) (h2:¬ 0≤bA t c.f0) (h3:¬ 8≤t.f2.length) (h4:c.f2=false∧c.f3.f0=0):oO t c=11:=(((if_neg h).trans (if_neg h2)).trans (if_neg h3)).trans (if_pos h4)
omit [Env] [aE] in
theorem Ky {t:aa} {c:aj} (h:¬bV c≠0) (h2:¬ 0≤bA t c.f0) (h3:¬ 8≤t.f2.length) (h4:¬(c.f2=false∧c.f3.f0=0)):oO t c=bV c:=
 ((((if_neg h).trans (if_neg h2)).trans (if_neg h3)).trans (if_neg h4)).trans (Decidable.not_not.1 h).symm
set_option maxRecDepth 100000 in
theorem Qo (h:Ul vs σ k):ag Tryz.prog 303 vs k σ:=by
 obtain⟨c,l,hf,⟨hc,h0,_,hl,_,ht⟩,hk,eA⟩:=h
 have ho:vX σ k _ _:=⟨hk,eA⟩
 obtain⟨qY,vY⟩:=ht _ (bf (show 0<l.length by omega))
 have hlen:0<(l.getD 0 default).f2.length∧(l.getD 0 default).f2.length≤8:=by have:=(lI vY).1;obtain⟨_,h1,_⟩:=this;omega
 refine ag.mj hf (F303.cg (live:=zo) (call:=CD) (fun h=>F4 h) (by kernel_rfl) ?_)
 have hT:=CJ h0 (l.getD 0 default)
 have hE:=Ij h0 (l.getD 0 default) (l.getD 1 default)
 rw[hT,hE] at ho
 obtain⟨f0,f1,f2,f3,f4,f5,f6,f7,⟨g0,g1,g2,g3⟩,f9⟩:=c
 have dq:tY ⟨g0,g1,g2,g3⟩:=hc.1.1
 cases g2 with
 | true=>
  refine(V8 _ _ ⟨f0,f1,f2,f3,f4,f5,f6,f7,⟨g0,g1,true,g3⟩,f9⟩ l).mpr ⟨⟨by omega,by omega⟩,⟨g0,g1,true,g3⟩,rfl,dq,rfl,av (fun a1=>⟨_,rfl,⟨by omega,by omega⟩,cB (by simp [V.beq,V.gz]) ⟨⟨rfl,by omega⟩,_,_,fi (p:=false) (by rfl) ((bC.of _).push ⟨g0,g1,true,g3⟩),ho.one rfl (Kv a1)⟩⟩) fun a1=>?_⟩
  refine⟨_,_,rfl,by show(l.getD 0 default).f2.length≤1000;omega,rfl,av (fun a2=>⟨_,rfl,⟨by omega,by omega⟩,cB (by simp [V.beq,V.gz]) ⟨⟨rfl,by omega⟩,_,_,fi (p:=false) (by rfl) ((bC.of _).push ⟨g0,g1,true,g3⟩),ho.one rfl (Kw a1 a2)⟩⟩) fun a2=>⟨rfl,av (fun a3=>⟨_,rfl,⟨by omega,by omega⟩,cB (by simp [V.beq,V.gz]) ⟨⟨rfl,by omega⟩,_,_,fi (p:=false) (by rfl) ((bC.of _).push ⟨g0,g1,true,g3⟩),ho.one rfl (Kx a1 a2 (by omega))⟩⟩) fun a3=>?_⟩⟩
  exact⟨_,rfl,⟨by omega,by omega⟩,cB (by simp [V.beq,V.gz]) ⟨⟨rfl,by omega⟩,_,_,fi (p:=false) (by rfl) ((bC.of _).push ⟨g0,g1,true,g3⟩),ho.one rfl (Ky a1 a2 (by omega) fun h=>by cases h.1)⟩⟩
 | false=>
  refine(V9 _ _ ⟨f0,f1,f2,f3,f4,f5,f6,f7,⟨g0,g1,false,g3⟩,f9⟩ l).mpr ⟨⟨by omega,by omega⟩,⟨g0,g1,false,g3⟩,rfl,dq,rfl,av (fun a1=>⟨_,rfl,⟨by omega,by omega⟩,cB (by simp [V.beq,V.gz]) ⟨⟨rfl,by omega⟩,_,_,fi (p:=false) (by rfl) ((bC.of _).push ⟨g0,g1,false,g3⟩),ho.one rfl (Kv a1)⟩⟩) fun a1=>?_⟩
  refine⟨_,_,rfl,by show(l.getD 0 default).f2.length≤1000;omega,rfl,av (fun a2=>⟨_,rfl,⟨by omega,by omega⟩,cB (by simp [V.beq,V.gz]) ⟨⟨rfl,by omega⟩,_,_,fi (p:=false) (by rfl) ((bC.of _).push ⟨g0,g1,false,g3⟩),ho.one rfl (Kw a1 a2)⟩⟩) fun a2=>⟨rfl,av (fun a3=>⟨_,rfl,⟨by omega,by omega⟩,cB (by simp [V.beq,V.gz]) ⟨⟨rfl,by omega⟩,_,_,fi (p:=false) (by rfl) ((bC.of _).push ⟨g0,g1,false,g3⟩),ho.one rfl (Kx a1 a2 (by omega))⟩⟩) fun a3=>?_⟩⟩
  refine⟨rfl,av (fun a4=>?_) fun a4=>?_⟩
  ·exact⟨_,rfl,⟨by omega,by omega⟩,cB (by simp [V.beq,V.gz]) ⟨⟨rfl,by omega⟩,_,_,fi (p:=false) (by rfl) ((bC.of _).push ⟨g0,g1,false,g3⟩),ho.one rfl (Uy a1 a2 (by omega) ⟨rfl,a4⟩)⟩⟩
  ·exact⟨_,rfl,⟨by omega,by omega⟩,cB (by simp [V.beq,V.gz]) ⟨⟨rfl,by omega⟩,_,_,fi (p:=false) (by rfl) ((bC.of _).push ⟨g0,g1,false,g3⟩),ho.one rfl (Ky a1 a2 (by omega) fun h=>a4 h.2)⟩⟩
theorem F5:∀ {f:FuncId} {vs:List V} {σ:St} {k:ah},H9 f vs σ k→ag Tryz.prog f vs k σ:=fun h=>aR Qo F4 h
omit [Env] [aE] in
theorem wR (t:aa) (s:List UInt8): -1≤bA t s∧bA t s<t.f2.length:=by
 rcases gV s (fun i=>(t.f2.getD i default).f0) t.f2.length with ⟨h,_⟩ | ⟨i,h,hi,_⟩
 ·have:bA t s= -1:=h
  omega
 ·have:bA t s=i:=h
  omega
theorem Qp (h:Uo vs σ k):ag Tryz.prog 306 vs k σ:=by
 obtain⟨c,l,hf,⟨hc,h0,_,hl,_,ht⟩,hk,eA⟩:=h
 have ho:vX σ k _ _:=⟨hk,eA⟩
 obtain⟨qY,vY⟩:=ht _ (bf (show 0<l.length by omega))
 have hlen:0<(l.getD 0 default).f2.length∧(l.getD 0 default).f2.length≤8∧1≤(l.getD 0 default).f1:=by have:=(lI vY).1;obtain⟨_,h1,h2,_⟩:=this;omega
 refine ag.mj hf (F306.cg (live:=F2) (call:=H9) (fun h=>F5 h) (by kernel_rfl) ?_)
 rw[Ik h0 (l.getD 0 default),CK h0 (l.getD 0 default) (l.getD 1 default)] at ho
 have hca:=wR (l.getD 0 default) c.f5
 rw[aau]
 refine⟨⟨by omega,by omega⟩,_,_,rfl,by show(l.getD 0 default).f2.length≤1000;omega,rfl,av (fun a1=>ho.err (if_pos a1) (by decide)) fun a1=>?_⟩
 obtain⟨i,hi⟩:∃i:Nat,bA (l.getD 0 default) c.f5=i:=⟨(bA (l.getD 0 default) c.f5).toNat,by omega⟩
 refine⟨_,rfl,⟨by omega,by omega⟩,(l.getD 0 default).f2,i,⟨rfl,hi,?_⟩,by rfl,⟨by omega,by omega,by omega⟩,fun n f hr=>⟨_,_,fi (p:=false) (by rfl) hr,ho.one ?_ (if_neg a1)⟩⟩
 ·rw[hi];exact i64_in _ (by omega)
 ·have:(fun j:Nat=>decide (j≠i))=fun j:Nat=>decide ((j:Int)≠bA (l.getD 0 default) c.f5):=funext fun j=>by rw[hi];exact decide_eq_decide.2 ⟨fun h e=>h (by omega),fun h e=>h (by omega)⟩
  rw[this];rfl
theorem F6:∀ {f:FuncId} {vs:List V} {σ:St} {k:ah},Ic f vs σ k→ag Tryz.prog f vs k σ:=fun h=>aR Qp F5 h
theorem Qq (h:Ur vs σ k):ag Tryz.prog 314 vs k σ:=by
 obtain⟨c,l,hf,⟨hc,h0,_,hl,_,ht⟩,hk,eA⟩:=h
 have ho:vX σ k _ _:=⟨hk,eA⟩
 obtain⟨qY,vY⟩:=ht _ (bf (show 0<l.length by omega))
 have hlen:0<(l.getD 0 default).f2.length∧(l.getD 0 default).f2.length≤8:=by have:=(lI vY).1;obtain⟨_,h1,_⟩:=this;omega
 refine ag.mj hf (F314.cg (live:=F3) (call:=Ic) (fun h=>F6 h) (by kernel_rfl) ?_)
 rw[Ni h0 (l.getD 0 default),aax h0 (l.getD 0 default) (l.getD 1 default)] at ho
 rw[aav];unfold M4 M3
 have e12:c.f1=c.f2→zi (l.getD 0 default) (l.getD 1 default) c=12:=fun h=>if_pos h
 have en:¬c.f1=c.f2→aP c.f3≠0→zi (l.getD 0 default) (l.getD 1 default) c=aP c.f3:=fun h1 h2=>(if_neg h1).trans (if_pos h2)
 have Yp:¬c.f1=c.f2→aP c.f3=0→((l.getD 0 default).f1≠(l.getD 1 default).f1∨(l.getD 0 default).f2≠(l.getD 1 default).f2)→zi (l.getD 0 default) (l.getD 1 default) c=11:=fun h1 h2 h3=>((if_neg h1).trans (if_neg fun h=>h h2)).trans (if_pos h3)
 have e0:¬c.f1=c.f2→aP c.f3=0→¬((l.getD 0 default).f1≠(l.getD 1 default).f1∨(l.getD 0 default).f2≠(l.getD 1 default).f2)→zi (l.getD 0 default) (l.getD 1 default) c=aP c.f3:=fun h1 h2 h3=>(((if_neg h1).trans (if_neg fun h=>h h2)).trans (if_neg h3)).trans h2.symm
 refine av (fun a1=>ho.err (e12 a1) (by decide)) fun a1=>⟨⟨by omega,by omega⟩,rfl,av (fun a2=>⟨⟨by omega,by omega⟩,rfl,av (fun a3=>?_) fun a3=>⟨⟨by omega,by omega⟩,_,_,rfl,by omega,fun b hb=>ae.mk (fun a4=>?_) fun a4=>?_⟩⟩) fun a2=>?_⟩
 ·exact⟨_,rfl,⟨by omega,by omega⟩,cB (by simp [V.beq]) ⟨_,_,fi (p:=false) (by rfl) (bC.of _),ho.one rfl (Yp a1 a2 (.inl a3))⟩⟩
 ·exact⟨_,rfl,⟨by omega,by omega⟩,cB (by simp [V.beq]) ⟨_,_,fi (p:=false) (by rfl) (bC.of _),ho.one rfl (Yp a1 a2 (.inr fun e=>by rw[hb.2 e] at a4;cases a4))⟩⟩
 ·exact⟨_,rfl,⟨by omega,by omega⟩,cB (by simp [V.beq]) ⟨_,_,fi (p:=false) (by rfl) (bC.of _),ho.one rfl (e0 a1 a2 fun h=>by
   rcases h with h | h
   ·exact a3 h
   ·exact h (hb.1 (by simpa using a4)))⟩⟩
 ·exact⟨_,rfl,⟨by omega,by omega⟩,cB (by simp [V.beq]) ⟨_,_,fi (p:=false) (by rfl) (bC.of _),ho.one rfl (en a1 a2)⟩⟩
theorem F7:∀ {f:FuncId} {vs:List V} {σ:St} {k:ah},jD f vs σ k→ag Tryz.prog f vs k σ:=fun h=>aR Qq F6 h
end
end Go.Proofs.YtbajncpfmemdgaaGreatDoor
end
