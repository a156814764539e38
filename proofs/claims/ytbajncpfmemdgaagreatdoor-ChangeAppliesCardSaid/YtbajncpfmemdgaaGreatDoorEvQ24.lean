/- Proved: parts of the way: BEq22, BEq23, BD6. -/
import Derived.Test.YtbajncpfmemdgaaGreatDoorEvQ23
set_option linter.unusedVariables false
set_option linter.unusedSimpArgs false
section
namespace Go.Proofs.YtbajncpfmemdgaaGreatDoor
open Go Go.Ev
def Bb:Nat→List Nat:=(fun _=>[])
abbrev RQ [Env] (A:Nat→List SV→Prop) (Q:V→St→Prop) (t:ae) (c:ak) (p0:Int):Prop:=
 (Q (.tuple [.agg (ae.cells t),.int .i64 (p0:Int)]) ⟨(St.new (St.new (St.new Go.Ev.start 0 (.cells 3 [] (ah (ae.cells t) .leaf 0) true false)) 1 (.cells 7 [] (ah [.str c.f0,.int .i64 c.f1,.bool false,.int .i64 c.f3.f0,.int .i64 c.f3.f1,.int .u64 c.f3.f2,.str c.f3.f3] .leaf 0) true false)) 2 (.cells 3 [] (ah (ae.cells t) .leaf 0) true false)).heap,3⟩)
abbrev aat [Env] (A:Nat→List SV→Prop) (Q:V→St→Prop) (t:ae) (c:ak) (p0:Int):Prop:=
 (Q (.tuple [.agg (ae.cells t),.int .i64 (p0:Int)]) ⟨(St.new (St.new (St.new Go.Ev.start 0 (.cells 3 [] (ah (ae.cells t) .leaf 0) true false)) 1 (.cells 7 [] (ah [.str c.f0,.int .i64 c.f1,.bool true,.int .i64 c.f3.f0,.int .i64 c.f3.f1,.int .u64 c.f3.f2,.str c.f3.f3] .leaf 0) true false)) 2 (.cells 3 [] (ah (ae.cells t) .leaf 0) true false)).heap,3⟩)
theorem acu [Env] (A:Nat→List SV→Prop) (Q:V→St→Prop) (t:ae) (c:ak):WE Tryz.prog 125 Tryz.f125 zu 0 Bb A Q [ae.enc t,.agg [.str c.f0,.int .i64 c.f1,.bool true,.int .i64 c.f3.f0,.int .i64 c.f3.f1,.int .u64 c.f3.f2,.str c.f3.f3]] Go.Ev.start=
  ((∃Me:ak,[.agg [.str c.f0,.int .i64 c.f1,.bool true,.int .i64 c.f3.f0,.int .i64 c.f3.f1,.int .u64 c.f3.f2,.str c.f3.f3]]=[ak.enc Me]∧mv Me∧((.i64:IntKind)=.i64∧aa (decide ((bJ Me)≠(0:Int))) (Q (.tuple [.agg (ae.cells t),.int .i64 (bJ Me)]) ⟨(St.new (St.new (St.new Go.Ev.start 0 (.cells 3 [] (ah (ae.cells t) .leaf 0) true false)) 1 (.cells 7 [] (ah [.str c.f0,.int .i64 c.f1,.bool true,.int .i64 c.f3.f0,.int .i64 c.f3.f1,.int .u64 c.f3.f2,.str c.f3.f3] .leaf 0) true false)) 2 (.cells 3 [] (ah (ae.cells t) .leaf 0) true false)).heap,3⟩) ((∃(RR:ae) (aau:List UInt8),[.agg (ae.cells t),.str c.f0]=[ae.enc RR,.str aau]∧RR.f2.length≤1000∧((.i64:IntKind)=.i64∧aa (decide ((az RR aau)≥(0:Int))) (aat A Q t c 12) (((.i64:IntKind)=.i64∧aa (decide ((((t.f2.length:Nat):Int))≥(8:Int))) (aat A Q t c 2) ((∃(Bc:List ak) (RS:Int),[af ak.enc 7 t.f2,.int .i64 (-1:Int)]=[af ak.enc 7 Bc,.int .i64 RS]∧Bc.length≤1000∧((bh (fun i=>decide ((i:Int)≠RS)) (fun i=>Bc.getD i default) Bc.length=[]→Q (.tuple [.agg [.str t.f0,.int .i64 t.f1,.slice 4 0 (1) (1) false 7],.int .i64 (0:Int)]) ⟨(St.new (St.new (St.new (St.new (St.new Go.Ev.start 0 (.cells 3 [] (ah [.str t.f0,.int .i64 t.f1,.slice 4 0 (1) (1) false 7] .leaf 0) true false)) 1 (.cells 7 [] (ah [.str c.f0,.int .i64 c.f1,.bool true,.int .i64 c.f3.f0,.int .i64 c.f3.f1,.int .u64 c.f3.f2,.str c.f3.f3] .leaf 0) true false)) 2 (.cells 3 [] (ah [.str t.f0,.int .i64 t.f1,.slice 4 0 (1) (1) false 7] .leaf 0) true false)) 3 (.cells 7 [] (ah [.str c.f0,.int .i64 c.f1,.bool true,.int .i64 c.f3.f0,.int .i64 c.f3.f1,.int .u64 c.f3.f2,.str c.f3.f3] .leaf 0) true false)) 4 (.cells 7 [] (ah [.str c.f0,.int .i64 c.f1,.bool true,.int .i64 c.f3.f0,.int .i64 c.f3.f1,.int .u64 c.f3.f2,.str c.f3.f3] .leaf 0) true false)).heap,5⟩)∧∀n232 aav,0<n232→bp n232 aav (bh (fun i=>decide ((i:Int)≠RS)) (fun i=>Bc.getD i default) Bc.length)→((n232=n232∧(n232+1)*72≤1099511627776)∧Q (.tuple [.agg [.str t.f0,.int .i64 t.f1,.own 5 (n232+1) 7],.int .i64 (0:Int)]) ⟨(St.new (St.new (St.new (St.new (St.new Go.Ev.start 0 (.cells 3 [] (ah [.str t.f0,.int .i64 t.f1,.own 5 (n232+1) 7] .leaf 0) true false)) 1 (.cells 7 [] (ah [.str c.f0,.int .i64 c.f1,.bool true,.int .i64 c.f3.f0,.int .i64 c.f3.f1,.int .u64 c.f3.f2,.str c.f3.f3] .leaf 0) true false)) 2 (.cells 3 [] (ah [.str t.f0,.int .i64 t.f1,.own 5 (n232+1) 7] .leaf 0) true false)) 4 (.cells 7 [] (ah [.str c.f0,.int .i64 c.f1,.bool true,.int .i64 c.f3.f0,.int .i64 c.f3.f1,.int .u64 c.f3.f2,.str c.f3.f3] .leaf 0) true false)) 5 (.row (n232+1) (cw n232 aav (fun _=>.agg [.str c.f0,.int .i64 c.f1,.bool true,.int .i64 c.f3.f0,.int .i64 c.f3.f1,.int .u64 c.f3.f2,.str c.f3.f3])) 7 false)).heap,6⟩)))))))))))):=by kernel_rfl
theorem acv [Env] (A:Nat→List SV→Prop) (Q:V→St→Prop) (t:ae) (c:ak):WE Tryz.prog 125 Tryz.f125 zu 0 Bb A Q [ae.enc t,.agg [.str c.f0,.int .i64 c.f1,.bool false,.int .i64 c.f3.f0,.int .i64 c.f3.f1,.int .u64 c.f3.f2,.str c.f3.f3]] Go.Ev.start=
  ((∃Mf:ak,[.agg [.str c.f0,.int .i64 c.f1,.bool false,.int .i64 c.f3.f0,.int .i64 c.f3.f1,.int .u64 c.f3.f2,.str c.f3.f3]]=[ak.enc Mf]∧mv Mf∧((.i64:IntKind)=.i64∧aa (decide ((bJ Mf)≠(0:Int))) (Q (.tuple [.agg (ae.cells t),.int .i64 (bJ Mf)]) ⟨(St.new (St.new (St.new Go.Ev.start 0 (.cells 3 [] (ah (ae.cells t) .leaf 0) true false)) 1 (.cells 7 [] (ah [.str c.f0,.int .i64 c.f1,.bool false,.int .i64 c.f3.f0,.int .i64 c.f3.f1,.int .u64 c.f3.f2,.str c.f3.f3] .leaf 0) true false)) 2 (.cells 3 [] (ah (ae.cells t) .leaf 0) true false)).heap,3⟩) ((∃(RT:ae) (aaw:List UInt8),[.agg (ae.cells t),.str c.f0]=[ae.enc RT,.str aaw]∧RT.f2.length≤1000∧((.i64:IntKind)=.i64∧aa (decide ((az RT aaw)≥(0:Int))) (RQ A Q t c 12) (((.i64:IntKind)=.i64∧aa (decide ((((t.f2.length:Nat):Int))≥(8:Int))) (RQ A Q t c 2) (((.i64:IntKind)=.i64∧aa (decide (c.f3.f0=(0:Int))) (RQ A Q t c 11) ((∃(Bd:List ak) (Eg:Int),[af ak.enc 7 t.f2,.int .i64 (-1:Int)]=[af ak.enc 7 Bd,.int .i64 Eg]∧Bd.length≤1000∧((bh (fun i=>decide ((i:Int)≠Eg)) (fun i=>Bd.getD i default) Bd.length=[]→Q (.tuple [.agg [.str t.f0,.int .i64 t.f1,.slice 4 0 (1) (1) false 7],.int .i64 (0:Int)]) ⟨(St.new (St.new (St.new (St.new (St.new Go.Ev.start 0 (.cells 3 [] (ah [.str t.f0,.int .i64 t.f1,.slice 4 0 (1) (1) false 7] .leaf 0) true false)) 1 (.cells 7 [] (ah [.str c.f0,.int .i64 c.f1,.bool false,.int .i64 c.f3.f0,.int .i64 c.f3.f1,.int .u64 c.f3.f2,.str c.f3.f3] .leaf 0) true false)) 2 (.cells 3 [] (ah [.str t.f0,.int .i64 t.f1,.slice 4 0 (1) (1) false 7] .leaf 0) true false)) 3 (.cells 7 [] (ah [.str c.f0,.int .i64 c.f1,.bool false,.int .i64 c.f3.f0,.int .i64 c.f3.f1,.int .u64 c.f3.f2,.str c.f3.f3] .leaf 0) true false)) 4 (.cells 7 [] (ah [.str c.f0,.int .i64 c.f1,.bool false,.int .i64 c.f3.f0,.int .i64 c.f3.f1,.int .u64 c.f3.f2,.str c.f3.f3] .leaf 0) true false)).heap,5⟩)∧∀n239 aax,0<n239→bp n239 aax (bh (fun i=>decide ((i:Int)≠Eg)) (fun i=>Bd.getD i default) Bd.length)→((n239=n239∧(n239+1)*72≤1099511627776)∧Q (.tuple [.agg [.str t.f0,.int .i64 t.f1,.own 5 (n239+1) 7],.int .i64 (0:Int)]) ⟨(St.new (St.new (St.new (St.new (St.new Go.Ev.start 0 (.cells 3 [] (ah [.str t.f0,.int .i64 t.f1,.own 5 (n239+1) 7] .leaf 0) true false)) 1 (.cells 7 [] (ah [.str c.f0,.int .i64 c.f1,.bool false,.int .i64 c.f3.f0,.int .i64 c.f3.f1,.int .u64 c.f3.f2,.str c.f3.f3] .leaf 0) true false)) 2 (.cells 3 [] (ah [.str t.f0,.int .i64 t.f1,.own 5 (n239+1) 7] .leaf 0) true false)) 4 (.cells 7 [] (ah [.str c.f0,.int .i64 c.f1,.bool false,.int .i64 c.f3.f0,.int .i64 c.f3.f1,.int .u64 c.f3.f2,.str c.f3.f3] .leaf 0) true false)) 5 (.row (n239+1) (cw n239 aax (fun _=>.agg [.str c.f0,.int .i64 c.f1,.bool false,.int .i64 c.f3.f0,.int .i64 c.f3.f1,.int .u64 c.f3.f2,.str c.f3.f3])) 7 false)).heap,6⟩)))))))))))))):=by kernel_rfl
def aay [Env] (vs:List V) (σ:St) (k:ai):Prop:=
 ∃(t:ae) (c:ak),vs=[ae.enc t,ak.enc c]∧(mv c∧0<t.f2.length∧t.f2.length≤1000)∧k (.tuple [ae.enc (vD t c),.int .i64 (kN t c)]) σ
def CS [Env]:=kS 125 aay zu
def JS:Nat→List Nat:=(fun _=>[])
theorem ahz [Env] (A:Nat→List SV→Prop) (Q:V→St→Prop) (t:ae) (s:List UInt8) (d:Int):WE Tryz.prog 126 Tryz.f126 CS 0 JS A Q [ae.enc t,.str s,.int .i64 d] Go.Ev.start=
  ((∃(bz:ae) (bB:List UInt8),[.agg (ae.cells t),.str s]=[ae.enc bz,.str bB]∧bz.f2.length≤1000∧((.i64:IntKind)=.i64∧aa (decide ((az bz bB)<t.f1)) (Q (.tuple [.agg (ae.cells t),.int .i64 (10:Int)]) ⟨(St.new (St.new Go.Ev.start 0 (.cells 3 [] (ah (ae.cells t) .leaf 0) true false)) 1 (.cells 3 [] (ah (ae.cells t) .leaf 0) true false)).heap,2⟩) (((0≤(az bz bB)∧(az bz bB)<((t.f2.length:Nat):Int))∧aa ((!(iY ((t.f2.getD (az bz bB).toNat default).f1) d))) (Q (.tuple [.agg (ae.cells t),.int .i64 (5:Int)]) ⟨(St.new (St.new (St.new Go.Ev.start 0 (.cells 3 [] (ah (ae.cells t) .leaf 0) true false)) 1 (.cells 3 [] (ah (ae.cells t) .leaf 0) true false)) 2 (.cells 7 [] (ah (ak.cells (t.f2.getD (az bz bB).toNat default)) .leaf 0) true false)).heap,3⟩) ((zl (⟨((t.f2.getD (az bz bB).toNat default).f3.f0),((t.f2.getD (az bz bB).toNat default).f3.f1),((t.f2.getD (az bz bB).toNat default).f3.f2),((t.f2.getD (az bz bB).toNat default).f3.f3)⟩:aC)∧((.i64:IntKind)=.i64∧aa (decide ((EM (⟨((t.f2.getD (az bz bB).toNat default).f3.f0),((t.f2.getD (az bz bB).toNat default).f3.f1),((t.f2.getD (az bz bB).toNat default).f3.f2),((t.f2.getD (az bz bB).toNat default).f3.f3)⟩:aC) d)≠(0:Int))) ((∃(Be:List ak) (EO:Int),[af ak.enc 7 t.f2,.int .i64 (-1:Int)]=[af ak.enc 7 Be,.int .i64 EO]∧Be.length≤1000∧((bh (fun i=>decide ((i:Int)≠EO)) (fun i=>Be.getD i default) Be.length=[]→False)∧∀n245 aaz,0<n245→bp n245 aaz (bh (fun i=>decide ((i:Int)≠EO)) (fun i=>Be.getD i default) Be.length)→((0≤(az bz bB)∧(az bz bB)<((n245:Nat):Int))∧((az bz bB).toNat<n245∧Q (.tuple [.agg [.str t.f0,.int .i64 t.f1,.own 4 n245 7],.int .i64 (0:Int)]) ⟨(St.new (St.new (St.new (St.new (St.new Go.Ev.start 0 (.cells 3 [] (ah [.str t.f0,.int .i64 t.f1,.own 4 n245 7] .leaf 0) true false)) 1 (.cells 3 [] (ah [.str t.f0,.int .i64 t.f1,.own 4 n245 7] .leaf 0) true false)) 2 (.cells 7 [] (ah [.str ((t.f2.getD (az bz bB).toNat default).f0),.int .i64 d,.bool (t.f2.getD (az bz bB).toNat default).f2,.int .i64 (0:Int),.int .i64 (0:Int),.int .u64 (0:Int),.str ([])] .leaf 0) true false)) 3 (.cells 4 [] (ah [.int .i64 (0:Int),.int .i64 (0:Int),.int .u64 (0:Int),.str ([])] .leaf 0) true false)) 4 (.row n245 (eV aaz (az bz bB).toNat (.agg [.str ((t.f2.getD (az bz bB).toNat default).f0),.int .i64 d,.bool (t.f2.getD (az bz bB).toNat default).f2,.int .i64 (0:Int),.int .i64 (0:Int),.int .u64 (0:Int),.str ([])])) 7 false)).heap,5⟩))))) ((∃(Bf:List ak) (RU:Int),[af ak.enc 7 t.f2,.int .i64 (-1:Int)]=[af ak.enc 7 Bf,.int .i64 RU]∧Bf.length≤1000∧((bh (fun i=>decide ((i:Int)≠RU)) (fun i=>Bf.getD i default) Bf.length=[]→False)∧∀n249 aaA,0<n249→bp n249 aaA (bh (fun i=>decide ((i:Int)≠RU)) (fun i=>Bf.getD i default) Bf.length)→((0≤(az bz bB)∧(az bz bB)<((n249:Nat):Int))∧((az bz bB).toNat<n249∧Q (.tuple [.agg [.str t.f0,.int .i64 t.f1,.own 4 n249 7],.int .i64 (0:Int)]) ⟨(St.new (St.new (St.new (St.new (St.new Go.Ev.start 0 (.cells 3 [] (ah [.str t.f0,.int .i64 t.f1,.own 4 n249 7] .leaf 0) true false)) 1 (.cells 3 [] (ah [.str t.f0,.int .i64 t.f1,.own 4 n249 7] .leaf 0) true false)) 2 (.cells 7 [] (ah [.str ((t.f2.getD (az bz bB).toNat default).f0),.int .i64 d,.bool (t.f2.getD (az bz bB).toNat default).f2,.int .i64 ((jV (⟨((t.f2.getD (az bz bB).toNat default).f3.f0),((t.f2.getD (az bz bB).toNat default).f3.f1),((t.f2.getD (az bz bB).toNat default).f3.f2),((t.f2.getD (az bz bB).toNat default).f3.f3)⟩:aC) d).f0),.int .i64 ((jV (⟨((t.f2.getD (az bz bB).toNat default).f3.f0),((t.f2.getD (az bz bB).toNat default).f3.f1),((t.f2.getD (az bz bB).toNat default).f3.f2),((t.f2.getD (az bz bB).toNat default).f3.f3)⟩:aC) d).f1),.int .u64 ((jV (⟨((t.f2.getD (az bz bB).toNat default).f3.f0),((t.f2.getD (az bz bB).toNat default).f3.f1),((t.f2.getD (az bz bB).toNat default).f3.f2),((t.f2.getD (az bz bB).toNat default).f3.f3)⟩:aC) d).f2),.str ((jV (⟨((t.f2.getD (az bz bB).toNat default).f3.f0),((t.f2.getD (az bz bB).toNat default).f3.f1),((t.f2.getD (az bz bB).toNat default).f3.f2),((t.f2.getD (az bz bB).toNat default).f3.f3)⟩:aC) d).f3)] .leaf 0) true false)) 3 (.cells 4 [] (ah [.int .i64 ((jV (⟨((t.f2.getD (az bz bB).toNat default).f3.f0),((t.f2.getD (az bz bB).toNat default).f3.f1),((t.f2.getD (az bz bB).toNat default).f3.f2),((t.f2.getD (az bz bB).toNat default).f3.f3)⟩:aC) d).f0),.int .i64 ((jV (⟨((t.f2.getD (az bz bB).toNat default).f3.f0),((t.f2.getD (az bz bB).toNat default).f3.f1),((t.f2.getD (az bz bB).toNat default).f3.f2),((t.f2.getD (az bz bB).toNat default).f3.f3)⟩:aC) d).f1),.int .u64 ((jV (⟨((t.f2.getD (az bz bB).toNat default).f3.f0),((t.f2.getD (az bz bB).toNat default).f3.f1),((t.f2.getD (az bz bB).toNat default).f3.f2),((t.f2.getD (az bz bB).toNat default).f3.f3)⟩:aC) d).f2),.str ((jV (⟨((t.f2.getD (az bz bB).toNat default).f3.f0),((t.f2.getD (az bz bB).toNat default).f3.f1),((t.f2.getD (az bz bB).toNat default).f3.f2),((t.f2.getD (az bz bB).toNat default).f3.f3)⟩:aC) d).f3)] .leaf 0) true false)) 4 (.row n249 (eV aaA (az bz bB).toNat (.agg [.str ((t.f2.getD (az bz bB).toNat default).f0),.int .i64 d,.bool (t.f2.getD (az bz bB).toNat default).f2,.int .i64 ((jV (⟨((t.f2.getD (az bz bB).toNat default).f3.f0),((t.f2.getD (az bz bB).toNat default).f3.f1),((t.f2.getD (az bz bB).toNat default).f3.f2),((t.f2.getD (az bz bB).toNat default).f3.f3)⟩:aC) d).f0),.int .i64 ((jV (⟨((t.f2.getD (az bz bB).toNat default).f3.f0),((t.f2.getD (az bz bB).toNat default).f3.f1),((t.f2.getD (az bz bB).toNat default).f3.f2),((t.f2.getD (az bz bB).toNat default).f3.f3)⟩:aC) d).f1),.int .u64 ((jV (⟨((t.f2.getD (az bz bB).toNat default).f3.f0),((t.f2.getD (az bz bB).toNat default).f3.f1),((t.f2.getD (az bz bB).toNat default).f3.f2),((t.f2.getD (az bz bB).toNat default).f3.f3)⟩:aC) d).f2),.str ((jV (⟨((t.f2.getD (az bz bB).toNat default).f3.f0),((t.f2.getD (az bz bB).toNat default).f3.f1),((t.f2.getD (az bz bB).toNat default).f3.f2),((t.f2.getD (az bz bB).toNat default).f3.f3)⟩:aC) d).f3)])) 7 false)).heap,5⟩))))))))))))):=by kernel_rfl
def aaB [Env] (vs:List V) (σ:St) (k:ai):Prop:=
 ∃(t:ae) (s:List UInt8) (d:Int),vs=[ae.enc t,.str s,.int .i64 d]∧(dV t∧1≤t.f1∧0<t.f2.length∧t.f2.length≤1000)∧k (.tuple [ae.enc (vE t s d),.int .i64 (qV t s d)]) σ
def CT [Env]:=kS 126 aaB CS
def JT:Nat→List Nat:=(fun _=>[])
theorem ahA [Env] (A:Nat→List SV→Prop) (Q:V→St→Prop) (l:List ae) (c:an):WE Tryz.prog 123 Tryz.f123 CT 0 JT A Q [af ae.enc 3 l,an.enc c] Go.Ev.start=
  (aa (decide (c.f1=c.f2)) (Q (.tuple [.aj,.int .i64 (12:Int)]) ⟨(St.new Go.Ev.start 0 (.cells 18 [] (ah (an.cells c) .leaf 0) true false)).heap,1⟩) (((.i64:IntKind)=.i64∧aa (decide ((aF c.f3)≠(0:Int))) (Q (.tuple [.aj,.int .i64 (aF c.f3)]) ⟨(St.new Go.Ev.start 0 (.cells 18 [] (ah (an.cells c) .leaf 0) true false)).heap,1⟩) ((∃(oo:List ae) (pN:List UInt8),[af ae.enc 3 l,.str c.f1]=[af ae.enc 3 oo,.str pN]∧oo.length≤1000000∧((0≤(aM oo pN)∧(aM oo pN)<((l.length:Nat):Int))∧(∃(th:List ae) (vH:List UInt8),[af ae.enc 3 l,.str c.f2]=[af ae.enc 3 th,.str vH]∧th.length≤1000000∧((0≤(aM th vH)∧(aM th vH)<((l.length:Nat):Int))∧((.i64:IntKind)=.i64∧aa (decide (((l.getD (aM oo pN).toNat default).f1)≠((l.getD (aM th vH).toNat default).f1))) (Q (.tuple [.aj,.int .i64 (11:Int)]) ⟨(St.new (St.new (St.new Go.Ev.start 0 (.cells 18 [] (ah (an.cells c) .leaf 0) true false)) 1 (.cells 3 [] (ah (ae.cells (l.getD (aM oo pN).toNat default)) .leaf 0) true false)) 2 (.cells 3 [] (ah (ae.cells (l.getD (aM th vH).toNat default)) .leaf 0) true false)).heap,3⟩) ((∃RV aaC:List ak,[af ak.enc 7 ((l.getD (aM oo pN).toNat default).f2),af ak.enc 7 ((l.getD (aM th vH).toNat default).f2)]=[af ak.enc 7 RV,af ak.enc 7 aaC]∧RV.length≤1000000∧∀LG:Bool,(LG=true↔RV=aaC)→aa ((!LG)) (Q (.tuple [.aj,.int .i64 (11:Int)]) ⟨(St.new (St.new (St.new Go.Ev.start 0 (.cells 18 [] (ah (an.cells c) .leaf 0) true false)) 1 (.cells 3 [] (ah (ae.cells (l.getD (aM oo pN).toNat default)) .leaf 0) true false)) 2 (.cells 3 [] (ah (ae.cells (l.getD (aM th vH).toNat default)) .leaf 0) true false)).heap,3⟩) (Q (.tuple [.slice 3 0 (1) (1) true 3,.int .i64 (0:Int)]) ⟨(St.new (St.new (St.new (St.new Go.Ev.start 0 (.cells 18 [] (ah (an.cells c) .leaf 0) true false)) 1 (.cells 3 [] (ah [.str c.f3,.int .i64 ((l.getD (aM oo pN).toNat default).f1),af ak.enc 7 ((l.getD (aM oo pN).toNat default).f2)] .leaf 0) true false)) 2 (.cells 3 [] (ah (ae.cells (l.getD (aM th vH).toNat default)) .leaf 0) true false)) 3 (.cells 3 [] (ah [.str c.f3,.int .i64 ((l.getD (aM oo pN).toNat default).f1),af ak.enc 7 ((l.getD (aM oo pN).toNat default).f2)] .leaf 0) true false)).heap,4⟩)))))))))))):=by kernel_rfl
def aaD [Env] (vs:List V) (σ:St) (k:ai):Prop:=
 ∃(l:List ae) (c:an),vs=[af ae.enc 3 l,an.enc c]∧(l.length≤1000∧0≤aM l c.f1∧0≤aM l c.f2∧∀t∈l,t.f2.length≤1000)∧k (.tuple [af ae.enc 3 (Fa (aA l c.f1) (aA l c.f2) c),.int .i64 (lB (aA l c.f1) (aA l c.f2) c)]) σ
def ti [Env]:=kS 123 aaD CT
def rU:Nat→List Nat:=(fun i=>match i with | 0=>[2,3,8] | 1=>[2,3,9,10,11] | _=>[])
theorem ahB [Env] (A:Nat→List SV→Prop) (Q:V→St→Prop) (t:ae) (c:an):WE Tryz.prog 124 Tryz.f124 ti 0 rU A Q [ae.enc t,an.enc c] Go.Ev.start=
  (((.i64:IntKind)=.i64∧aa (decide ((aF c.f3)≠(0:Int))) (Q (.tuple [.aj,.int .i64 (aF c.f3)]) ⟨(St.new (St.new Go.Ev.start 0 (.cells 3 [] (ah (ae.cells t) .leaf 0) true false)) 1 (.cells 18 [] (ah (an.cells c) .leaf 0) true false)).heap,2⟩) (((.i64:IntKind)=.i64∧aa (decide ((aF c.f4)≠(0:Int))) (Q (.tuple [.aj,.int .i64 (aF c.f4)]) ⟨(St.new (St.new Go.Ev.start 0 (.cells 3 [] (ah (ae.cells t) .leaf 0) true false)) 1 (.cells 18 [] (ah (an.cells c) .leaf 0) true false)).heap,2⟩) (aa (decide (c.f3=c.f4)) (Q (.tuple [.aj,.int .i64 (12:Int)]) ⟨(St.new (St.new Go.Ev.start 0 (.cells 3 [] (ah (ae.cells t) .leaf 0) true false)) 1 (.cells 18 [] (ah (an.cells c) .leaf 0) true false)).heap,2⟩) (A 0 [.box (ae.cells t),.box (an.cells c),.val (.int .i64 (0:Int))])))))):=by kernel_rfl
theorem acw [Env] (A:Nat→List SV→Prop) (Q:V→St→Prop) (c:an) (t:ae) (i:Int):WL Tryz.prog 124 Tryz.f124 ti 0 rU A Q 0 [.box (ae.cells t),.box (an.cells c),.val (.int .i64 i)]=
  (((.i64:IntKind)=.i64∧aa (decide (i<(((c.f7.length:Nat):Int)))) (((0≤i∧i<((c.f7.length:Nat):Int))∧(∃(RW:ae) (aaE:List UInt8),[.agg (ae.cells t),.str ((c.f7.getD i.toNat default))]=[ae.enc RW,.str aaE]∧RW.f2.length≤1000∧aa (V.beq (.int .i64 t.f1) (.int .i64 t.f1)&&true) (((.i64:IntKind)=.i64∧aa (decide ((az RW aaE)<t.f1)) (Q (.tuple [.aj,.int .i64 (10:Int)]) ⟨(St.new (St.new Go.Ev.start 0 (.cells 3 [] (ah (ae.cells t) .leaf 0) false false)) 1 (.cells 18 [] (ah (an.cells c) .leaf 0) false false)).heap,24⟩) (((0≤i∧i<((c.f7.length:Nat):Int))∧(∃q:Nat→List UInt8,(fun i=>V.str (c.f7.getD i default))=(fun i=>V.str (q i))∧c.f7.length≤1000000∧((.i64:IntKind)=.i64∧aa (decide ((bT ((c.f7.getD i.toNat default)) q c.f7.length)≠i)) (Q (.tuple [.aj,.int .i64 (10:Int)]) ⟨(St.new (St.new Go.Ev.start 0 (.cells 3 [] (ah (ae.cells t) .leaf 0) false false)) 1 (.cells 18 [] (ah (an.cells c) .leaf 0) false false)).heap,24⟩) (A 0 [.box (ae.cells t),.box (an.cells c),.val (.int .i64 (IntKind.i64.wrap (i+(1:Int))))]))))))) False))) (A 1 [.box (ae.cells t),.box (an.cells c),.box [.str c.f3,.int .i64 t.f1,.aj],.box [.str c.f4,.int .i64 t.f1,.aj],.val (.int .i64 (0:Int))]))):=by kernel_rfl
abbrev Mg [Env] (A:Nat→List SV→Prop) (Q:V→St→Prop) (c:an) (t:ae) (i:Int):Prop:=
 ((0≤i∧i<((t.f2.length:Nat):Int))∧(((1:Nat)=1∧(1:Nat)=1∧1*7=1*7)∧(((1:Nat)=1∧(1:Nat)=1∧1*7=1*7)∧A 1 [.box (ae.cells t),.box (an.cells c),.nest (.ptr) [.val (.str c.f3),.val (.int .i64 t.f1),.row 1 (fun _=>.agg (ak.cells (t.f2.getD i.toNat default))) 7],.nest (.ptr) [.val (.str c.f4),.val (.int .i64 t.f1),.row 1 (fun _=>.agg (ak.cells (t.f2.getD i.toNat default))) 7],.val (.int .i64 (IntKind.i64.wrap (i+(1:Int))))])))
abbrev RX [Env] (A:Nat→List SV→Prop) (Q:V→St→Prop) (c:an) (t:ae) (i:Int):Prop:=
 ((0≤i∧i<((t.f2.length:Nat):Int))∧((.i64:IntKind)=.i64∧aa (decide (i<t.f1)) ((Mg A Q c t i)) ((((1:Nat)=1∧(1:Nat)=1∧1*7=1*7)∧A 1 [.box (ae.cells t),.box (an.cells c),.nest (.ptr) [.val (.str c.f3),.val (.int .i64 t.f1),.row 1 (fun _=>.agg (ak.cells (t.f2.getD i.toNat default))) 7],.box [.str c.f4,.int .i64 t.f1,.aj],.val (.int .i64 (IntKind.i64.wrap (i+(1:Int))))]))))
abbrev RY [Env] (A:Nat→List SV→Prop) (Q:V→St→Prop) (c:an) (t:ae) (i:Int):Prop:=
 ((0≤i∧i<((t.f2.length:Nat):Int))∧(((1:Nat)=1∧(1:Nat)=1∧1*7=1*7)∧A 1 [.box (ae.cells t),.box (an.cells c),.box [.str c.f3,.int .i64 t.f1,.aj],.nest (.ptr) [.val (.str c.f4),.val (.int .i64 t.f1),.row 1 (fun _=>.agg (ak.cells (t.f2.getD i.toNat default))) 7],.val (.int .i64 (IntKind.i64.wrap (i+(1:Int))))]))
theorem acx [Env] (A:Nat→List SV→Prop) (Q:V→St→Prop) (c:an) (t:ae) (i:Int):WL Tryz.prog 124 Tryz.f124 ti 0 rU A Q 1 [.box (ae.cells t),.box (an.cells c),.box [.str c.f3,.int .i64 t.f1,.aj],.box [.str c.f4,.int .i64 t.f1,.aj],.val (.int .i64 i)]=
  (((.i64:IntKind)=.i64∧aa (decide (i<(((t.f2.length:Nat):Int)))) (((0≤i∧i<((t.f2.length:Nat):Int))∧(∃q:Nat→List UInt8,(fun i=>V.str (c.f7.getD i default))=(fun i=>V.str (q i))∧c.f7.length≤1000000∧((.i64:IntKind)=.i64∧aa (decide ((bT ((t.f2.getD i.toNat default).f0) q c.f7.length)≥(0:Int))) (((.i64:IntKind)=.i64∧aa (decide (i<t.f1)) ((RX A Q c t i)) ((RX A Q c t i)))) (((.i64:IntKind)=.i64∧aa (decide (i<t.f1)) (((0≤i∧i<((t.f2.length:Nat):Int))∧((.i64:IntKind)=.i64∧aa (decide (i<t.f1)) ((Mg A Q c t i)) ((Mg A Q c t i))))) (((.i64:IntKind)=.i64∧aa (decide (i<t.f1)) ((RY A Q c t i)) ((RY A Q c t i)))))))))) (Q (.tuple [.slice 4 0 (2) (2) true 3,.int .i64 (0:Int)]) ⟨(St.new (St.new (St.new (St.new (St.new Go.Ev.start 0 (.cells 3 [] (ah (ae.cells t) .leaf 0) false false)) 1 (.cells 18 [] (ah (an.cells c) .leaf 0) false false)) 2 (.cells 3 [] (ah [.str c.f3,.int .i64 t.f1,.aj] .leaf 0) false false)) 3 (.cells 3 [] (ah [.str c.f4,.int .i64 t.f1,.aj] .leaf 0) false false)) 4 (.cells 6 [] (ah [.str c.f3,.int .i64 t.f1,.aj,.str c.f4,.int .i64 t.f1,.aj] .leaf 0) true false)).heap,5⟩))):=by kernel_rfl
abbrev Mh [Env] (A:Nat→List SV→Prop) (Q:V→St→Prop) (c:an) (t:ae) (a b:Nat) (f g:Nat→V) (i:Int):Prop:=
 ((0≤i∧i<((t.f2.length:Nat):Int))∧((b=b∧(b+1)*72≤1099511627776)∧(((a+1)=(a+1)∧7=7)∧(((b+1)=(b+1)∧7=7)∧A 1 [.box (ae.cells t),.box (an.cells c),.nest (.ptr) [.val (.str c.f3),.val (.int .i64 t.f1),.row (a+1) (cw a f (fun _=>.agg (ak.cells (t.f2.getD i.toNat default)))) 7],.nest (.ptr) [.val (.str c.f4),.val (.int .i64 t.f1),.row (b+1) (cw b g (fun _=>.agg (ak.cells (t.f2.getD i.toNat default)))) 7],.val (.int .i64 (IntKind.i64.wrap (i+(1:Int))))]))))
abbrev RZ [Env] (A:Nat→List SV→Prop) (Q:V→St→Prop) (c:an) (t:ae) (a b:Nat) (f g:Nat→V) (i:Int):Prop:=
 ((0≤i∧i<((t.f2.length:Nat):Int))∧((a=a∧(a+1)*72≤1099511627776)∧((.i64:IntKind)=.i64∧aa (decide (i<t.f1)) ((Mh A Q c t a b f g i)) ((((a+1)=(a+1)∧7=7)∧((b=b∧7=7)∧A 1 [.box (ae.cells t),.box (an.cells c),.nest (.ptr) [.val (.str c.f3),.val (.int .i64 t.f1),.row (a+1) (cw a f (fun _=>.agg (ak.cells (t.f2.getD i.toNat default)))) 7],.nest (.ptr) [.val (.str c.f4),.val (.int .i64 t.f1),.row b g 7],.val (.int .i64 (IntKind.i64.wrap (i+(1:Int))))]))))))
abbrev R0 [Env] (A:Nat→List SV→Prop) (Q:V→St→Prop) (c:an) (t:ae) (a b:Nat) (f g:Nat→V) (i:Int):Prop:=
 ((0≤i∧i<((t.f2.length:Nat):Int))∧((b=b∧(b+1)*72≤1099511627776)∧((a=a∧7=7)∧(((b+1)=(b+1)∧7=7)∧A 1 [.box (ae.cells t),.box (an.cells c),.nest (.ptr) [.val (.str c.f3),.val (.int .i64 t.f1),.row a f 7],.nest (.ptr) [.val (.str c.f4),.val (.int .i64 t.f1),.row (b+1) (cw b g (fun _=>.agg (ak.cells (t.f2.getD i.toNat default)))) 7],.val (.int .i64 (IntKind.i64.wrap (i+(1:Int))))]))))
theorem acy [Env] (A:Nat→List SV→Prop) (Q:V→St→Prop) (c:an) (t:ae) (a b:Nat) (f g:Nat→V) (i:Int):WL Tryz.prog 124 Tryz.f124 ti 0 rU A Q 1 [.box (ae.cells t),.box (an.cells c),.nest (.ptr) [.val (.str c.f3),.val (.int .i64 t.f1),.row a f 7],.nest (.ptr) [.val (.str c.f4),.val (.int .i64 t.f1),.row b g 7],.val (.int .i64 i)]=
  (((.i64:IntKind)=.i64∧aa (decide (i<(((t.f2.length:Nat):Int)))) (((0≤i∧i<((t.f2.length:Nat):Int))∧(∃q:Nat→List UInt8,(fun i=>V.str (c.f7.getD i default))=(fun i=>V.str (q i))∧c.f7.length≤1000000∧((.i64:IntKind)=.i64∧aa (decide ((bT ((t.f2.getD i.toNat default).f0) q c.f7.length)≥(0:Int))) (((.i64:IntKind)=.i64∧aa (decide (i<t.f1)) ((RZ A Q c t a b f g i)) ((RZ A Q c t a b f g i)))) (((.i64:IntKind)=.i64∧aa (decide (i<t.f1)) (((0≤i∧i<((t.f2.length:Nat):Int))∧((a=a∧(a+1)*72≤1099511627776)∧((.i64:IntKind)=.i64∧aa (decide (i<t.f1)) ((Mh A Q c t a b f g i)) ((Mh A Q c t a b f g i)))))) (((.i64:IntKind)=.i64∧aa (decide (i<t.f1)) ((R0 A Q c t a b f g i)) ((R0 A Q c t a b f g i)))))))))) (Q (.tuple [.slice 6 0 (2) (2) true 3,.int .i64 (0:Int)]) ⟨(St.new (St.new (St.new (St.new (St.new (St.new (St.new Go.Ev.start 0 (.cells 3 [] (ah (ae.cells t) .leaf 0) false false)) 1 (.cells 18 [] (ah (an.cells c) .leaf 0) false false)) 2 (.cells 3 [] (ah [.str c.f3,.int .i64 t.f1,.own 3 a 7] .leaf 0) false false)) 3 (.row a f 7 false)) 4 (.cells 3 [] (ah [.str c.f4,.int .i64 t.f1,.own 5 b 7] .leaf 0) false false)) 5 (.row b g 7 false)) 6 (.cells 6 [] (ah [.str c.f3,.int .i64 t.f1,.own 3 a 7,.str c.f4,.int .i64 t.f1,.own 5 b 7] .leaf 0) true false)).heap,7⟩))):=by kernel_rfl
def aaF [Env] (vs:List V) (σ:St) (k:ai):Prop:=
 ∃(t:ae) (c:an),vs=[ae.enc t,an.enc c]∧(c.f7.length≤1000000∧1≤t.f1∧0<t.f2.length∧t.f2.length≤1000)∧k (.tuple [af ae.enc 3 (E9 t c),.int .i64 (ki t c)]) σ
def CU [Env]:=kS 124 aaF ti
end Go.Proofs.YtbajncpfmemdgaaGreatDoor
end
section
namespace Go.Proofs.YtbajncpfmemdgaaGreatDoor
open Go Go.Ev
def Oz:Nat→List Nat:=(fun _=>[])
theorem e75 [Env] (A:Nat→List SV→Prop) (Q:V→St→Prop) (l:List ae) (c:an):WE Tryz.prog 75 Tryz.f75 CU 0 Oz A Q [af ae.enc 3 l,an.enc c] Go.Ev.start=
  (((.i64:IntKind)=.i64∧aa (decide (c.f0=(1:Int))) ((∃R1:ae,[.agg (ae.cells c.f9)]=[ae.enc R1]∧eX R1∧aa (V.beq (.agg (ae.cells c.f9)) (.agg (ae.cells c.f9))&&true) (Q (.tuple [.slice 3 0 (1) (1) true 3,.int .i64 (bK R1)]) ⟨(St.new (St.new Go.Ev.start 0 (.cells 18 [] (ah (an.cells c) .leaf 0) true false)) 3 (.cells 3 [] (ah (ae.cells c.f9) .leaf 0) true false)).heap,9⟩) False)) (((.i64:IntKind)=.i64∧aa (decide (c.f0=(6:Int))) ((∃(tj:List ae) (tk:an),[af ae.enc 3 l,.agg (an.cells c)]=[af ae.enc 3 tj,an.enc tk]∧(tj.length≤1000∧0≤aM tj tk.f1∧0≤aM tj tk.f2∧∀t∈tj,t.f2.length≤1000)∧Q (.tuple [af ae.enc 3 ((Fa (aA tj tk.f1) (aA tj tk.f2) tk)),.int .i64 (lB (aA tj tk.f1) (aA tj tk.f2) tk)]) ⟨(St.new Go.Ev.start 0 (.cells 18 [] (ah (an.cells c) .leaf 0) true false)).heap,1⟩)) ((∃(jb:List ae) (jx:List UInt8),[af ae.enc 3 l,.str c.f1]=[af ae.enc 3 jb,.str jx]∧jb.length≤1000000∧((0≤(aM jb jx)∧(aM jb jx)<((l.length:Nat):Int))∧((.i64:IntKind)=.i64∧aa (decide (c.f0=(5:Int))) ((∃(Bg:ae) (Mi:an),[.agg (ae.cells (l.getD (aM jb jx).toNat default)),.agg (an.cells c)]=[ae.enc Bg,an.enc Mi]∧(Mi.f7.length≤1000000∧1≤Bg.f1∧0<Bg.f2.length∧Bg.f2.length≤1000)∧Q (.tuple [af ae.enc 3 ((E9 Bg Mi)),.int .i64 (ki Bg Mi)]) ⟨(St.new (St.new Go.Ev.start 0 (.cells 18 [] (ah (an.cells c) .leaf 0) true false)) 1 (.cells 3 [] (ah (ae.cells (l.getD (aM jb jx).toNat default)) .leaf 0) true false)).heap,2⟩)) (((.i64:IntKind)=.i64∧aa (decide (c.f0=(2:Int))) ((∃(Bh:ae) (FD:ak),[.agg (ae.cells (l.getD (aM jb jx).toNat default)),.agg (ak.cells c.f8)]=[ae.enc Bh,ak.enc FD]∧(mv FD∧0<Bh.f2.length∧Bh.f2.length≤1000)∧Q (.tuple [.slice 2 0 (1) (1) true 3,.int .i64 (kN Bh FD)]) ⟨(St.new (St.new (St.new Go.Ev.start 0 (.cells 18 [] (ah (an.cells c) .leaf 0) true false)) 1 (.cells 3 [] (ah (ae.cells (vD Bh FD)) .leaf 0) true false)) 2 (.cells 3 [] (ah (ae.cells (vD Bh FD)) .leaf 0) true false)).heap,3⟩)) (((.i64:IntKind)=.i64∧aa (decide (c.f0=(4:Int))) ((∃(vI:ae) (Mj:List UInt8) (AH:Int),[.agg (ae.cells (l.getD (aM jb jx).toNat default)),.str c.f5,.int .i64 c.f6]=[ae.enc vI,.str Mj,.int .i64 AH]∧(dV vI∧1≤vI.f1∧0<vI.f2.length∧vI.f2.length≤1000)∧Q (.tuple [.slice 2 0 (1) (1) true 3,.int .i64 (qV vI Mj AH)]) ⟨(St.new (St.new (St.new Go.Ev.start 0 (.cells 18 [] (ah (an.cells c) .leaf 0) true false)) 1 (.cells 3 [] (ah (ae.cells (vE vI Mj AH)) .leaf 0) true false)) 2 (.cells 3 [] (ah (ae.cells (vE vI Mj AH)) .leaf 0) true false)).heap,3⟩)) ((∃(Mk:ae) (R2:List UInt8),[.agg (ae.cells (l.getD (aM jb jx).toNat default)),.str c.f5]=[ae.enc Mk,.str R2]∧Mk.f2.length≤1000∧((.i64:IntKind)=.i64∧aa (decide ((az Mk R2)<((l.getD (aM jb jx).toNat default).f1))) (Q (.tuple [.aj,.int .i64 (10:Int)]) ⟨(St.new (St.new Go.Ev.start 0 (.cells 18 [] (ah (an.cells c) .leaf 0) true false)) 1 (.cells 3 [] (ah (ae.cells (l.getD (aM jb jx).toNat default)) .leaf 0) true false)).heap,2⟩) ((∃(Bi:List ak) (Ef:Int),[af ak.enc 7 ((l.getD (aM jb jx).toNat default).f2),.int .i64 (az Mk R2)]=[af ak.enc 7 Bi,.int .i64 Ef]∧Bi.length≤1000∧((bh (fun i=>decide ((i:Int)≠Ef)) (fun i=>Bi.getD i default) Bi.length=[]→Q (.tuple [.slice 2 0 (1) (1) true 3,.int .i64 (0:Int)]) ⟨(St.new (St.new (St.new Go.Ev.start 0 (.cells 18 [] (ah (an.cells c) .leaf 0) true false)) 1 (.cells 3 [] (ah [.str ((l.getD (aM jb jx).toNat default).f0),.int .i64 ((l.getD (aM jb jx).toNat default).f1),.aj] .leaf 0) true false)) 2 (.cells 3 [] (ah [.str ((l.getD (aM jb jx).toNat default).f0),.int .i64 ((l.getD (aM jb jx).toNat default).f1),.aj] .leaf 0) true false)).heap,3⟩)∧∀n276 aaG,0<n276→bp n276 aaG (bh (fun i=>decide ((i:Int)≠Ef)) (fun i=>Bi.getD i default) Bi.length)→Q (.tuple [.slice 3 0 (1) (1) true 3,.int .i64 (0:Int)]) ⟨(St.new (St.new (St.new (St.new Go.Ev.start 0 (.cells 18 [] (ah (an.cells c) .leaf 0) true false)) 1 (.cells 3 [] (ah [.str ((l.getD (aM jb jx).toNat default).f0),.int .i64 ((l.getD (aM jb jx).toNat default).f1),.own 2 n276 7] .leaf 0) true false)) 2 (.row n276 aaG 7 false)) 3 (.cells 3 [] (ah [.str ((l.getD (aM jb jx).toNat default).f0),.int .i64 ((l.getD (aM jb jx).toNat default).f1),.own 2 n276 7] .leaf 0) true false)).heap,4⟩)))))))))))))))))):=by kernel_rfl
def W75 [Env] (vs:List V) (σ:St) (k:ai):Prop:=
 ∃(l:List ae) (c:an),vs=[af ae.enc 3 l,an.enc c]∧(fx c∧(1≤c.f0∧c.f0≤6)∧c.f7.length≤1000000∧l.length≤16∧(∀t∈l,dV t∧bK t=0)∧(c.f0≠1→0≤aM l c.f1)∧(c.f0=6→0≤aM l c.f2))∧((kE c (aA l c.f1) (aA l c.f2)=0→k (.tuple [af ae.enc 3 (kT c (aA l c.f1)),.int .i64 0]) σ)∧(kE c (aA l c.f1) (aA l c.f2)≠0→∀q:List ae,k (.tuple [af ae.enc 3 q,.int .i64 (kE c (aA l c.f1) (aA l c.f2))]) σ))
def wO [Env]:=kS 75 W75 CU
def zB:Nat→List Nat:=(fun i=>match i with | 0=>[0,3,7,8] | 1=>[0,7,9,11] | _=>[])
theorem e31 [Env] (A:Nat→List SV→Prop) (Q:V→St→Prop) (l:List ae) (c:an):WE Tryz.prog 31 Tryz.f31 wO 0 zB A Q [af ae.enc 3 l,an.enc c] Go.Ev.start=
  ((∃Ml:List ae,[af ae.enc 3 l]=[af ae.enc 3 Ml]∧(∀t∈Ml,eX t)∧((.i64:IntKind)=.i64∧aa (decide ((cn Ml)≠(0:Int))) (Q (.tuple [.aj,.int .i64 (cn Ml)]) ⟨(St.new Go.Ev.start 0 (.cells 18 [] (ah (an.cells c) .leaf 0) true false)).heap,1⟩) (((.i64:IntKind)=.i64∧aa (decide (c.f0<(1:Int))) (Q (.tuple [.aj,.int .i64 (1:Int)]) ⟨(St.new Go.Ev.start 0 (.cells 18 [] (ah (an.cells c) .leaf 0) true false)).heap,1⟩) (((.i64:IntKind)=.i64∧aa (decide (c.f0>(6:Int))) (Q (.tuple [.aj,.int .i64 (1:Int)]) ⟨(St.new Go.Ev.start 0 (.cells 18 [] (ah (an.cells c) .leaf 0) true false)).heap,1⟩) ((∃aaH:an,[.agg (an.cells c)]=[an.enc aaH]∧A 0 [.val (af ae.enc 3 l),.box (an.cells c),.val (af V.str 1 ((aN aaH))),.val (.int .i64 (0:Int))]))))))))):=by kernel_rfl
theorem ahC [Env] (A:Nat→List SV→Prop) (Q:V→St→Prop) (l:List ae) (c:an) (s:List (List UInt8)) (i:Int):WL Tryz.prog 31 Tryz.f31 wO 0 zB A Q 0 [.val (af ae.enc 3 l),.box (an.cells c),.val (af V.str 1 s),.val (.int .i64 i)]=
  (((.i64:IntKind)=.i64∧aa (decide (i<(((s.length:Nat):Int)))) (((0≤i∧i<((s.length:Nat):Int))∧(∃(R3:List ae) (aaI:List UInt8),[af ae.enc 3 l,.str ((s.getD i.toNat default))]=[af ae.enc 3 R3,.str aaI]∧R3.length≤1000000∧((.i64:IntKind)=.i64∧aa (decide ((aM R3 aaI)<(0:Int))) (Q (.tuple [.aj,.int .i64 (9:Int)]) ⟨(St.new Go.Ev.start 0 (.cells 18 [] (ah (an.cells c) .leaf 0) false false)).heap,1⟩) (A 0 [.val (af ae.enc 3 l),.box (an.cells c),.val (af V.str 1 s),.val (.int .i64 (IntKind.i64.wrap (i+(1:Int))))]))))) ((∃(mz:List ae) (gX:an),[af ae.enc 3 l,.agg (an.cells c)]=[af ae.enc 3 mz,an.enc gX]∧(fx gX∧(1≤gX.f0∧gX.f0≤6)∧gX.f7.length≤1000000∧mz.length≤16∧(∀t∈mz,dV t∧bK t=0)∧(gX.f0≠1→0≤aM mz gX.f1)∧(gX.f0=6→0≤aM mz gX.f2))∧((kE gX (aA mz gX.f1) (aA mz gX.f2)=0→((.i64:IntKind)=.i64∧A 1 [.val (af ae.enc 3 l),.val (af V.str 1 s),.val (af ae.enc 3 ((kT gX (aA mz gX.f1)))),.val (.int .i64 (0:Int))]))∧(kE gX (aA mz gX.f1) (aA mz gX.f2)≠0→∀ahD:List ae,((.i64:IntKind)=.i64∧aa (decide (((kE gX (aA mz gX.f1) (aA mz gX.f2)))≠(0:Int))) (Q (.tuple [.aj,.int .i64 ((kE gX (aA mz gX.f1) (aA mz gX.f2)))]) ⟨(St.new Go.Ev.start 0 (.cells 18 [] (ah (an.cells c) .leaf 0) false false)).heap,1⟩) (A 1 [.val (af ae.enc 3 l),.val (af V.str 1 s),.val (af ae.enc 3 ahD),.val (.int .i64 (0:Int))])))))))):=by kernel_rfl
theorem ahE [Env] (A:Nat→List SV→Prop) (Q:V→St→Prop) (l o:List ae) (s:List (List UInt8)) (i:Int):WL Tryz.prog 31 Tryz.f31 wO 0 zB A Q 1 [.val (af ae.enc 3 l),.val (af V.str 1 s),.val (af ae.enc 3 o),.val (.int .i64 i)]=
  (((.i64:IntKind)=.i64∧aa (decide (i<(((o.length:Nat):Int)))) (((0≤i∧i<((o.length:Nat):Int))∧(∃(R4:List ae) (aaJ:List UInt8),[af ae.enc 3 l,.str ((o.getD i.toNat default).f0)]=[af ae.enc 3 R4,.str aaJ]∧R4.length≤1000000∧((.i64:IntKind)=.i64∧aa (decide ((aM R4 aaJ)≥(0:Int))) (((0≤i∧i<((o.length:Nat):Int))∧(∃q:Nat→List UInt8,(fun i=>V.str (s.getD i default))=(fun i=>V.str (q i))∧s.length≤1000000∧((.i64:IntKind)=.i64∧aa (decide ((bT ((o.getD i.toNat default).f0) q s.length)<(0:Int))) (Q (.tuple [.aj,.int .i64 (12:Int)]) ⟨Go.Ev.start.heap,0⟩) (A 1 [.val (af ae.enc 3 l),.val (af V.str 1 s),.val (af ae.enc 3 o),.val (.int .i64 (IntKind.i64.wrap (i+(1:Int))))]))))) (A 1 [.val (af ae.enc 3 l),.val (af V.str 1 s),.val (af ae.enc 3 o),.val (.int .i64 (IntKind.i64.wrap (i+(1:Int))))]))))) (Q (.tuple [af ae.enc 3 o,.int .i64 (0:Int)]) ⟨Go.Ev.start.heap,0⟩))):=by kernel_rfl
def W31 [Env] (vs:List V) (σ:St) (k:ai):Prop:=
 ∃(l:List ae) (c:an),vs=[af ae.enc 3 l,an.enc c]∧(fx c∧c.f7.length≤1000000∧∀t∈l,dV t)∧k (.tuple [af ae.enc 3 (ck l c),.int .i64 (cK l c)]) σ
def TT [Env]:=kS 31 W31 wO
end Go.Proofs.YtbajncpfmemdgaaGreatDoor
end
section
namespace Go.Proofs.YtbajncpfmemdgaaGreatDoor
open Go Go.Ev Go.IntWalk
theorem F125:bc Tryz.prog 125 Tryz.f125:=.of (by kernel_rfl) (by kernel_rfl)
theorem F126:bc Tryz.prog 126 Tryz.f126:=.of (by kernel_rfl) (by kernel_rfl)
theorem F123:bc Tryz.prog 123 Tryz.f123:=.of (by kernel_rfl) (by kernel_rfl)
theorem F124:bc Tryz.prog 124 Tryz.f124:=.of (by kernel_rfl) (by kernel_rfl)
theorem F75:bc Tryz.prog 75 Tryz.f75:=.of (by kernel_rfl) (by kernel_rfl)
theorem F31:bc Tryz.prog 31 Tryz.f31:=.of (by kernel_rfl) (by kernel_rfl)
theorem B8 {α:Type} [Inhabited α] {p:Nat→Bool} (hp:∀i,p i=true) (l:List α):∀n,n≤l.length→bh p (fun i=>l.getD i default) n=l.take n
 | 0,_=>rfl
 | n+1,h=>by
  rw[wM (hp n),B8 hp l n (by omega),List.take_add_one,List.getD_eq_getElem?_getD,List.getElem?_eq_getElem (by omega)];rfl
theorem ko {l:List ak}:bh (fun i=>decide ((i:Int)≠ -1)) (fun i=>l.getD i default) l.length=l:=by
 rw[B8 (fun i=>decide_eq_true (by omega)) l l.length (Nat.le_refl _),List.take_length]
theorem aaK {v:aC} {d:Int} (h:EM v d≠0):jV v d=kh:=by
 unfold EM at h
 unfold jV
 by_cases h1:bj v≠0
 ·rw[if_pos h1]
 rw[if_neg h1] at h⊢
 by_cases h2:d<1∨d>5
 ·rw[if_pos h2]
 rw[if_neg h2] at h⊢
 by_cases h3:v.f0=0∨v.f0=d
 ·rw[if_pos h3] at h;exact(h rfl).elim
 rw[if_neg h3] at h⊢
 by_cases h4:iY v.f0 d=false
 ·rw[if_pos h4]
 rw[if_neg h4] at h⊢
 by_cases h5:v.f0=1
 ·rw[if_pos h5] at h;exact(h rfl).elim
 rw[if_neg h5] at h⊢
 by_cases h6:v.f0=2
 ·rw[if_pos h6] at h⊢;exact AV h
 rw[if_neg h6] at h⊢
 by_cases h7:v.f0=3
 ·rw[if_pos h7] at h⊢;exact EV h
 rw[if_neg h7] at h⊢
 by_cases h8:v.f0=4
 ·rw[if_pos h8] at h⊢;exact B6 h
 rw[if_neg h8] at h⊢
 exact EW h
theorem bp.kR {n i:Nat} {f:Nat→V} {L:List ak} (h:bp n f L) (hi:i<n) (x:ak) {v:V} (hv:v=ak.enc x):bp n (eV f i v) (L.set i x):=by
 subst hv
 obtain⟨rfl,h2⟩:=h
 refine⟨by simp,fun j hj=>?_⟩
 by_cases e:j=i
 ·subst e;rw[wz];simp [List.getD_eq_getElem?_getD,hi]
 ·rw[wA _ _ e,h2 j hj]
  simp [List.getD_eq_getElem?_getD,List.getElem?_set_ne (Ne.symm e)]
section
variable [Env] [aL] {vs:List V} {σ:St} {k:ai}
omit [aL] in
theorem aK.hR {σ:St} {k:ai} {τ:St} {vs us:List V} (h:bA τ vs us) (hk:k (.tuple us) σ):aK σ k (.tuple vs) τ:=aK.gf (.tuple h) hk
omit [aL] in
theorem TU {τ:St} {t:ae} {e:Int}:bA τ [.agg t.cells,.int .i64 e] [ae.enc t,.int .i64 e]:=.cons (.clean t.aE) (.cons (.int _ _) .nil)
omit [Env] [aL] in
theorem R5 {t:ae} {c:ak} {e:Int} (h:kN t c=e) (h0:e≠0):vD t c=t:=if_neg (by rw[h];exact h0)
omit [aL] in
theorem lD {t:ae} {c:ak} (hk:k (.tuple [ae.enc (vD t c),.int .i64 (kN t c)]) σ) {e:Int} (h:kN t c=e) (h0:e≠0) {τ:St}:aK σ k (.tuple [.agg t.cells,.int .i64 e]) τ:=by
 rw[R5 h h0,h] at hk
 exact aK.hR TU hk
set_option maxRecDepth 100000 in
theorem Wc (h:aay vs σ k):ag Tryz.prog 125 vs k σ:=by
 obtain⟨t,c,rfl,⟨cT,hl,zC⟩,hk⟩:=h
 refine ag.aV (ar t.aE (ar c.aE aG)) (F125.cd (live:=Bb) (call:=zu) (fun h=>FC h) (by kernel_rfl) ?_)
 have fin:∀ {τ:St} {b n:Nat} {f:Nat→V} {p:Bool},kN t c=0→bp n f t.f2→τ.heap.get b=some (.row (n+1) (cw n f fun _=>.agg (ak.cells c)) 7 p)→aK σ k (.tuple [.agg [.str t.f0,.int .i64 t.f1,.own b (n+1) 7],.int .i64 0]) τ:=fun h0 hr hb=>by
  have e:vD t c=AZ t c:=if_pos h0
  rw[e,h0] at hk
  exact aK.hR (fe hb (hr.push c)) hk
 obtain⟨g0,g1,g2,g3⟩:=c
 cases g2 with
 | true=>
  refine(acu _ _ t ⟨g0,g1,true,g3⟩).mpr ⟨⟨g0,g1,true,g3⟩,rfl,cT,rfl,aq (fun a1=>lD hk (zw a1) a1) fun a1=>⟨t,g0,rfl,zC,rfl,aq (fun a2=>lD hk (zx a1 a2) (by decide)) fun a2=>⟨rfl,aq (fun a3=>lD hk (zy a1 a2 (by omega)) (by decide)) fun a3=>?_⟩⟩⟩
  have h5:kN t ⟨g0,g1,true,g3⟩=0:=(zz a1 a2 (by omega) fun h=>by cases h.1).trans (Decidable.not_not.1 a1)
  refine⟨t.f2,-1,rfl,zC,fun h=>?_,fun n f hn hr=>?_⟩
  ·rw[ko] at h;rw[h] at hl;simp at hl
  ·rw[ko] at hr
   have:=hr.1
   exact⟨⟨rfl,by omega⟩,fin (p:=false) h5 hr (by rfl)⟩
 | false=>
  refine(acv _ _ t ⟨g0,g1,false,g3⟩).mpr ⟨⟨g0,g1,false,g3⟩,rfl,cT,rfl,aq (fun a1=>lD hk (zw a1) a1) fun a1=>⟨t,g0,rfl,zC,rfl,aq (fun a2=>lD hk (zx a1 a2) (by decide)) fun a2=>⟨rfl,aq (fun a3=>lD hk (zy a1 a2 (by omega)) (by decide)) fun a3=>⟨rfl,aq (fun a4=>lD hk (Ox a1 a2 (by omega) ⟨rfl,a4⟩) (by decide)) fun a4=>?_⟩⟩⟩⟩
  have h5:kN t ⟨g0,g1,false,g3⟩=0:=(zz a1 a2 (by omega) fun h=>a4 h.2).trans (Decidable.not_not.1 a1)
  refine⟨t.f2,-1,rfl,zC,fun h=>?_,fun n f hn hr=>?_⟩
  ·rw[ko] at h;rw[h] at hl;simp at hl
  ·rw[ko] at hr
   have:=hr.1
   exact⟨⟨rfl,by omega⟩,fin (p:=false) h5 hr (by rfl)⟩
theorem FE:∀ {f:FuncId} {vs:List V} {σ:St} {k:ai},CS f vs σ k→ag Tryz.prog f vs k σ:=fun h=>aD Wc FC h
omit [Env] [aL] in
theorem k6 {t:ae} {s:List UInt8} {d:Int} (h:az t s<t.f1):qV t s d=10:=if_pos h
omit [Env] [aL] in
theorem mB {t:ae} {s:List UInt8} {d:Int} (h:¬az t s<t.f1) (h2:iY (oW t s).f1 d=false):qV t s d=5:=(if_neg h).trans (if_neg (by rw[h2];decide))
omit [Env] [aL] in
theorem k7 {t:ae} {s:List UInt8} {d:Int} (h:¬az t s<t.f1) (h2:iY (oW t s).f1 d=true):qV t s d=0:=(if_neg h).trans (if_pos h2)
omit [aL] in
theorem FF {t:ae} {s:List UInt8} {d:Int} (hk:k (.tuple [ae.enc (vE t s d),.int .i64 (qV t s d)]) σ) {e:Int} (h:qV t s d=e) (h0:e≠0) {τ:St}:aK σ k (.tuple [.agg t.cells,.int .i64 e]) τ:=by
 have e':vE t s d=t:=if_neg (by rw[h];exact h0)
 rw[e',h] at hk
 exact aK.hR TU hk
theorem Wd (h:aaB vs σ k):ag Tryz.prog 126 vs k σ:=by
 obtain⟨t,s,d,rfl,⟨n4,TV,hl,zC⟩,hk⟩:=h
 refine ag.aV (ar t.aE (ar (Go.Ev.Clean.str _) (ar (Go.Ev.Clean.int _ _) aG))) (F126.cd (live:=JS) (call:=CS) (fun h=>FE h) (by kernel_rfl) ?_)
 have hca:=pM t s
 rw[ahz]
 refine⟨t,s,rfl,zC,rfl,aq (fun a1=>FF hk (k6 a1) (by decide)) fun a1=>⟨⟨by omega,by omega⟩,aa.mk (fun a2=>FF hk (mB a1 (by rw[Bool.not_eq_true'] at a2;exact a2)) (by decide)) fun a2=>?_⟩⟩
 have aaL:iY (oW t s).f1 d=true:=by rw[Bool.not_eq_false'] at a2;exact a2
 have rn:zl (oW t s).f3:=n4 _ (bm (by omega))
 have fin:∀ {τ:St} {b n:Nat} {f:Nat→V} {p:Bool} {v:V},bp n f t.f2→v=ak.enc (A0 (oW t s) d)→τ.heap.get b=some (.row n (eV f (az t s).toNat v) 7 p)→aK σ k (.tuple [.agg [.str t.f0,.int .i64 t.f1,.own b n 7],.int .i64 0]) τ:=fun {τ b n f p v} hr hv hb=>by
  have e:vE t s d=vB t s d:=if_pos (k7 a1 aaL)
  rw[e,k7 a1 aaL] at hk
  exact aK.hR (fe hb (hr.kR (by have:=hr.1;omega) _ hv)) hk
 refine⟨rn,rfl,aq (fun a3=>?_) fun a3=>?_⟩
 ·refine⟨t.f2,-1,rfl,zC,fun h=>?_,fun n f hn hr=>?_⟩
  ·rw[ko] at h;rw[h] at hl;simp at hl
  ·rw[ko] at hr
   have:=hr.1
   refine⟨⟨by omega,by omega⟩,by omega,fin (p:=false) hr ?_ (by rfl)⟩
   have:jV (oW t s).f3 d=kh:=aaK a3
   unfold A0
   rw[this];rfl
 ·refine⟨t.f2,-1,rfl,zC,fun h=>?_,fun n f hn hr=>?_⟩
  ·rw[ko] at h;rw[h] at hl;simp at hl
  ·rw[ko] at hr
   have:=hr.1
   exact⟨⟨by omega,by omega⟩,by omega,fin (p:=false) hr rfl (by rfl)⟩
theorem FG:∀ {f:FuncId} {vs:List V} {σ:St} {k:ai},CT f vs σ k→ag Tryz.prog f vs k σ:=fun h=>aD Wd FE h
omit [aL] in
theorem nk {τ:St} {b m:Nat} {ex:Bool} {t:ae} (h:τ.cells b 0 (1*3)=some t.cells):ei τ (.slice b 0 1 m ex 3) (af ae.enc 3 [t]):=
 .jT (.slice (es:=[ae.enc t]) h (fO t.clean) (fun v hv=>by rw[List.mem_singleton.1 hv];rfl) rfl)
omit [aL] in
theorem xW {τ:St}:ei τ .aj (af ae.enc 3 []):=.jT (.empty _ _)
omit [aL] in
theorem vJ {τ:St} {e:Int}:bA τ [.aj,.int .i64 e] [af ae.enc 3 [],.int .i64 e]:=.cons xW (.cons (.int _ _) .nil)
omit [aL] in
theorem tm {t u:ae} {c:an} (hk:k (.tuple [af ae.enc 3 (Fa t u c),.int .i64 (lB t u c)]) σ) {e:Int} (h:lB t u c=e) (h0:e≠0) {τ:St}:aK σ k (.tuple [.aj,.int .i64 e]) τ:=by
 have e':Fa t u c=[]:=if_neg (by rw[h];exact h0)
 rw[e',h] at hk
 exact aK.hR vJ hk
omit [Env] [aL] in
theorem dd (l:List ae) (s:List UInt8): -1≤aM l s∧aM l s<l.length:=by
 rcases jJ s (fun i=>(l.getD i default).f0) l.length with ⟨h,_⟩ | ⟨i,h,hi,_⟩
 ·have:aM l s= -1:=h
  omega
 ·have:aM l s=i:=h
  omega
set_option maxRecDepth 100000 in
theorem We (h:aaD vs σ k):ag Tryz.prog 123 vs k σ:=by
 obtain⟨l,c,rfl,⟨hl,h1,h2,hc⟩,hk⟩:=h
 refine ag.aV (ar (bE l) (ar c.aE aG)) (F123.cd (live:=JT) (call:=CT) (fun h=>FG h) (by kernel_rfl) ?_)
 have b1:=dd l c.f1
 have b2:=dd l c.f2
 obtain⟨t,ht⟩:∃t,t=aA l c.f1:=⟨_,rfl⟩
 obtain⟨u,hu⟩:∃u,u=aA l c.f2:=⟨_,rfl⟩
 rw[←ht,←hu] at hk
 rw[ahA]
 have e12:c.f1=c.f2→lB t u c=12:=fun h=>if_pos h
 have en:¬c.f1=c.f2→aF c.f3≠0→lB t u c=aF c.f3:=fun h1 h2=>(if_neg h1).trans (if_pos h2)
 have Oy:¬c.f1=c.f2→¬aF c.f3≠0→(t.f1≠u.f1∨t.f2≠u.f2)→lB t u c=11:=fun h1 h2 h3=>((if_neg h1).trans (if_neg h2)).trans (if_pos h3)
 have e0:¬c.f1=c.f2→¬aF c.f3≠0→¬(t.f1≠u.f1∨t.f2≠u.f2)→lB t u c=0:=fun h1 h2 h3=>((if_neg h1).trans (if_neg h2)).trans (if_neg h3)
 have jd:t.f2.length≤1000:=by rw[ht];exact hc _ (bm (by omega))
 refine aq (fun a1=>tm hk (e12 a1) (by decide)) fun a1=>⟨rfl,aq (fun a2=>tm hk (en a1 a2) a2) fun a2=>⟨l,c.f1,rfl,by omega,⟨h1,b1.2⟩,l,c.f2,rfl,by omega,⟨h2,b2.2⟩,rfl,?_⟩⟩
 have eZ:l.getD (aM l c.f1).toNat default=t:=ht.symm
 have oz:l.getD (aM l c.f2).toNat default=u:=hu.symm
 rw[eZ,oz]
 refine aq (fun a3=>tm hk (Oy a1 a2 (.inl a3)) (by decide)) fun a3=>⟨t.f2,u.f2,rfl,by omega,fun b hb=>aa.mk (fun a4=>?_) fun a4=>?_⟩
 ·exact tm hk (Oy a1 a2 (.inr fun e=>by rw[hb.2 e] at a4;cases a4)) (by decide)
 ·have hE:=e0 a1 a2 fun h=>by
   rcases h with h | h
   ·exact a3 h
   ·exact h (hb.1 (by rw[Bool.not_eq_false'] at a4;exact a4))
  have e':Fa t u c=[E8 t c]:=if_pos hE
  rw[e',hE] at hk
  exact aK.hR (.cons (nk (t:=E8 t c) (by rfl)) (.cons (.int _ _) .nil)) hk
theorem FH:∀ {f:FuncId} {vs:List V} {σ:St} {k:ai},ti f vs σ k→ag Tryz.prog f vs k σ:=fun h=>aD We FG h
abbrev tn (s:List UInt8) (q:Int) (n:Nat) (f:Nat→V):SV:=.nest .ptr [.val (.str s),.val (.int .i64 q),.row n f 7]
def Bj (c:an) (t:ae):Nat→List SV→Prop
 | 0,ss=>∃i:Nat,(i≤c.f7.length∧aF c.f3=0∧aF c.f4=0∧¬c.f3=c.f4)∧(∀j,j<i→jN t c j=0)∧ss=[.box t.cells,.box c.cells,.val (.int .i64 (i:Int))]
 | 1,ss=>ki t c=0∧((ss=[.box t.cells,.box c.cells,.box [.str c.f3,.int .i64 t.f1,.aj],.box [.str c.f4,.int .i64 t.f1,.aj],.val (.int .i64 (0:Int))])∨
   ∃(i a b:Nat) (f g:Nat→V),0<i∧i≤t.f2.length∧bp a f (dz t c true i)∧bp b g (dz t c false i)∧ss=[.box t.cells,.box c.cells,tn c.f3 t.f1 a f,tn c.f4 t.f1 b g,.val (.int .i64 (i:Int))])
 | _,_=>False
def ahF (c:an) (t:ae):Nat→List SV→Nat
 | 0,ss=>2000+(c.f7.length-bF ss)
 | _,ss=>t.f2.length-bF ss
omit [aL] in
theorem xo {s:List UInt8} {q:Int} {n:Nat} {f:Nat→V} {L:List ak} (h:bp n f L):(tn s q n f).clean:=by
 intro p hp
 have hp:p∈[SP.val (.str s),SP.val (.int .i64 q),SP.row n f 7]:=hp
 simp only[List.mem_cons,List.not_mem_nil,or_false] at hp
 rcases hp with rfl | rfl | rfl
 ·exact Go.Ev.Clean.str _
 ·exact Go.Ev.Clean.int _ _
 ·exact h.cl
omit [aL] in
theorem Bj.clean {c:an} {t:ae}:∀k ss,Bj c t k ss→∀s∈ss,s.clean
 | 0,_,⟨_,_,_,e⟩=>by subst e;exact ax (ae.clean t) (ax (an.clean c) (ay bg))
 | 1,_,⟨_,.inl e⟩=>by
  subst e
  have nb:∀s:List UInt8,(SV.box [.str s,.int .i64 t.f1,.aj]).clean:=fun s=>aI (Go.Ev.Clean.str _) (aI (Go.Ev.Clean.int _ _) (aI Go.Ev.Clean.aj cM))
  exact ax (ae.clean t) (ax (an.clean c) (ax (nb _) (ax (nb _) (ay bg))))
 | 1,_,⟨_,.inr ⟨_,_,_,_,_,_,_,h1,h2,e⟩⟩=>by subst e;exact ax (ae.clean t) (ax (an.clean c) (ax (xo h1) (ax (xo h2) (ay bg))))
 | n+2,_,h=>h.elim
omit [aL] in
theorem pO {t:ae} {c:an} (hk:k (.tuple [af ae.enc 3 (E9 t c),.int .i64 (ki t c)]) σ) {e:Int} (h:ki t c=e) (h0:e≠0) {τ:St}:aK σ k (.tuple [.aj,.int .i64 e]) τ:=by
 have e':E9 t c=[]:=if_neg (by rw[h];exact h0)
 rw[e',h] at hk
 exact aK.hR vJ hk
theorem Wf (h:aaF vs σ k):ag Tryz.prog 124 vs k σ:=by
 obtain⟨t,c,rfl,⟨hP,TV,hl,zC⟩,hk⟩:=h
 have ahG:∀b,hZ t c b 0=true:=fun b=>kl (by omega)
 refine ag.aV (ar t.aE (ar c.aE aG)) (F124.gV (live:=rU) (call:=ti) (fun h=>FH h) 2 (by kernel_rfl) Nat.lt_wfRel.wf (ahF c t) (Bj c t) Bj.clean ?_ ?_)
 ·rw[ahB]
  have h3:ki t c=if aF c.f3≠0 then aF c.f3 else if aF c.f4≠0 then aF c.f4 else if c.f3=c.f4 then 12 else dy (jN t c) c.f7.length:=rfl
  exact⟨rfl,aq (fun a=>pO hk (by rw[h3,if_pos a]) a) fun a=>⟨rfl,aq (fun a2=>pO hk (by rw[h3,if_neg a,if_pos a2]) a2) fun a2=>aq (fun a3=>pO hk (by rw[h3,if_neg a,if_neg a2,if_pos a3]) (by decide)) fun a3=>
   ⟨0,⟨by omega,Decidable.not_not.1 a,Decidable.not_not.1 a2,a3⟩,fun j hj=>absurd hj (Nat.not_lt_zero j),rfl⟩⟩⟩
 ·intro j hj ss hI
  match j,hI with
  | 0,hI=>
   obtain⟨i,⟨hi,g1,g2,g3⟩,hb,rfl⟩:=hI
   rw[acw]
   refine⟨rfl,aq (fun a1=>⟨⟨by omega,by omega⟩,t,_,rfl,by omega,cB (by simp [V.beq]) ⟨rfl,aq (fun a2=>pO hk ?_ (by decide)) fun a2=>⟨⟨by omega,by omega⟩,_,rfl,hP,rfl,aq (fun a3=>pO hk ?_ (by decide)) fun a3=>?_⟩⟩⟩) fun a1=>?_⟩
   ·rw[cA] at a2
    exact tf g1 g2 g3 (i:=i) (by omega) (by unfold jN;rw[if_pos (.inl a2)];decide) hb
   ·rw[cA] at a2 a3
    exact tf g1 g2 g3 (i:=i) (by omega) (by unfold jN;rw[if_pos (.inr a3)];decide) hb
   ·rw[cA] at a2 a3
    rw[i64_in ((i:Int)+1) (by omega)]
    refine⟨⟨i+1,⟨by omega,g1,g2,g3⟩,fun j hj=>?_,rfl⟩,?_⟩
    ·by_cases e:j=i
     ·subst e;unfold jN;rw[if_neg]
      rintro(h | h)
      ·exact a2 h
      ·exact a3 h
     ·exact hb j (by omega)
    ·show 2000+(c.f7.length-((i:Int)+1).toNat)<2000+(c.f7.length-(i:Int).toNat)
     omega
   ·obtain rfl:i=c.f7.length:=by omega
    refine⟨⟨JR g1 g2 g3 hb,.inl rfl⟩,?_⟩
    show t.f2.length-(0:Int).toNat<2000+_
    omega
  | 1,hI=>
   obtain⟨hE,rfl | ⟨i,a,b,f,g,h0,hi,vG,rA,rfl⟩⟩:=hI
   ·have s1:∀b,dz t c b 1=[gD t 0]:=fun b=>nj (ahG b)
    have nx:Bj c t 1 [.box t.cells,.box c.cells,tn c.f3 t.f1 1 (fun _=>.agg (ak.cells (gD t 0))),tn c.f4 t.f1 1 (fun _=>.agg (ak.cells (gD t 0))),.val (.int .i64 (IntKind.i64.wrap ((0:Int)+1)))]∧t.f2.length-(IntKind.i64.wrap ((0:Int)+1)).toNat<t.f2.length-(0:Int).toNat:=by
     rw[i64_in ((0:Int)+1) (by omega)]
     exact⟨⟨hE,.inr ⟨1,1,1,_,_,by omega,by omega,by rw[s1];exact bp.one _,by rw[s1];exact bp.one _,rfl⟩⟩,by omega⟩
    rw[acx];unfold RX RY Mg
    refine⟨rfl,aq (fun a1=>⟨⟨by omega,by omega⟩,_,rfl,hP,rfl,aq (fun _=>⟨rfl,aq (fun a2=>⟨⟨by omega,by omega⟩,rfl,aq (fun _=>⟨⟨by omega,by omega⟩,⟨rfl,rfl,rfl⟩,⟨rfl,rfl,rfl⟩,nx⟩) fun h=>absurd a2 h⟩) fun h=>absurd (show(0:Int)<t.f1 by omega) h⟩)
     fun _=>⟨rfl,aq (fun a2=>⟨⟨by omega,by omega⟩,rfl,aq (fun _=>⟨⟨by omega,by omega⟩,⟨rfl,rfl,rfl⟩,⟨rfl,rfl,rfl⟩,nx⟩) fun h=>absurd a2 h⟩) fun h=>absurd (show(0:Int)<t.f1 by omega) h⟩⟩) fun a1=>absurd (show(0:Int)<t.f2.length by omega) a1⟩
   ·have ha:a≤1000:=by have:=vG.1;have:=kj (hZ t c true) (gD t) i;unfold dz at *;omega
    have hb:b≤1000:=by have:=rA.1;have:=kj (hZ t c false) (gD t) i;unfold dz at *;omega
    rw[acy];unfold RZ R0 Mh
    have nx:∀ {a' b':Nat} {f' g':Nat→V},bp a' f' (dz t c true (i+1))→bp b' g' (dz t c false (i+1))→i<t.f2.length→Bj c t 1 [.box t.cells,.box c.cells,tn c.f3 t.f1 a' f',tn c.f4 t.f1 b' g',.val (.int .i64 (IntKind.i64.wrap ((i:Int)+1)))]∧t.f2.length-(IntKind.i64.wrap ((i:Int)+1)).toNat<t.f2.length-(i:Int).toNat:=fun h1 h2 h3=>by
     rw[i64_in ((i:Int)+1) (by omega)]
     exact⟨⟨hE,.inr ⟨i+1,_,_,_,_,by omega,by omega,h1,h2,rfl⟩⟩,by omega⟩
    have p1:hZ t c true i=true→bp (a+1) (cw a f fun _=>.agg (ak.cells (gD t i))) (dz t c true (i+1)):=fun h=>by rw[nj h];exact vG.push _
    have p2:hZ t c false i=true→bp (b+1) (cw b g fun _=>.agg (ak.cells (gD t i))) (dz t c false (i+1)):=fun h=>by rw[nj h];exact rA.push _
    have q1:¬hZ t c true i=true→bp a f (dz t c true (i+1)):=fun h=>by rw[tg h];exact vG
    have q2:¬hZ t c false i=true→bp b g (dz t c false (i+1)):=fun h=>by rw[tg h];exact rA
    refine⟨rfl,aq (fun a1=>⟨⟨by omega,by omega⟩,_,rfl,hP,rfl,aq (fun a3=>?_) fun a3=>?_⟩) fun a1=>?_⟩
    ·have hn:named t c i=true:=decide_eq_true a3
     refine⟨rfl,aq (fun a2=>⟨⟨by omega,by omega⟩,⟨rfl,by omega⟩,rfl,aq (fun _=>⟨⟨by omega,by omega⟩,⟨rfl,by omega⟩,⟨rfl,rfl⟩,⟨rfl,rfl⟩,nx (p1 (kl a2)) (p2 (kl a2)) (by omega)⟩) fun h=>absurd a2 h⟩) fun a2=>⟨⟨by omega,by omega⟩,⟨rfl,by omega⟩,rfl,aq (fun h=>absurd h a2) fun _=>⟨⟨rfl,rfl⟩,⟨rfl,rfl⟩,nx (p1 ?_) (q2 ?_) (by omega)⟩⟩⟩
     ·rw[ji a2,hn];rfl
     ·rw[ji a2,hn];decide
    ·have hn:named t c i=false:=decide_eq_false a3
     refine⟨rfl,aq (fun a2=>⟨⟨by omega,by omega⟩,⟨rfl,by omega⟩,rfl,aq (fun _=>⟨⟨by omega,by omega⟩,⟨rfl,by omega⟩,⟨rfl,rfl⟩,⟨rfl,rfl⟩,nx (p1 (kl a2)) (p2 (kl a2)) (by omega)⟩) fun h=>absurd a2 h⟩) fun a2=>⟨rfl,aq (fun h=>absurd h a2) fun _=>⟨⟨by omega,by omega⟩,⟨rfl,by omega⟩,⟨rfl,rfl⟩,⟨rfl,rfl⟩,nx (q1 ?_) (p2 ?_) (by omega)⟩⟩⟩
     ·rw[ji a2,hn];decide
     ·rw[ji a2,hn];rfl
    ·obtain rfl:i=t.f2.length:=by omega
     have e':E9 t c=vC t c:=if_pos hE
     rw[e',hE] at hk
     obtain⟨rfl,k1⟩:=vG
     obtain⟨rfl,k2⟩:=rA
     refine aK.hR (us:=[af ae.enc 3 (vC t c),.int .i64 0]) (.cons (.jT (.slice (es:=[ae.enc ⟨c.f3,t.f1,dz t c true t.f2.length⟩,ae.enc ⟨c.f4,t.f1,dz t c false t.f2.length⟩]) (by rfl) (.cons (.str _) (.cons (.int _ _) (.cons (.own (g:=fun i=>ak.enc ((dz t c true t.f2.length).getD i default)) (p:=false) (by rfl) (fun i hi=>by rw[k1 i hi];exact fO (ak.clean _)) fun i hi=>rfl)
      (.cons (.str _) (.cons (.int _ _) (.cons (.own (g:=fun i=>ak.enc ((dz t c false t.f2.length).getD i default)) (p:=false) (by rfl) (fun i hi=>by rw[k2 i hi];exact fO (ak.clean _)) fun i hi=>rfl) .nil)))))) (fun v hv=>?_) rfl)) (.cons (.int _ _) .nil)) hk
     simp only[List.mem_cons,List.not_mem_nil,or_false] at hv
     rcases hv with rfl | rfl<;>rfl
  | n+2,hI=>exact hI.elim
theorem FI:∀ {f:FuncId} {vs:List V} {σ:St} {k:ai},CU f vs σ k→ag Tryz.prog f vs k σ:=fun h=>aD Wf FH h
end
end Go.Proofs.YtbajncpfmemdgaaGreatDoor
end
