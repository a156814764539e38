/- Proved: parts of the way: BEq22, BEq23, BD6. -/
import Derived.Test.YtbajncpfmemdgaaGreatDoorEvQ24
section
namespace Go.Proofs.YtbajncpfmemdgaaGreatDoor
open Go Go.Ev
def BM:Nat→List Nat:=(fun _=>[])
abbrev SF [Env] (A:Nat→List SV→Prop) (Q:V→St→Prop) (t:af) (c:aj) (p0:Int):Prop:=
 (Q (.tuple [.agg (af.cells t),.int .i64 (p0:Int)]) ⟨(St.new (St.new (St.new Go.Ev.start 0 (.cells 3 [] (ai (af.cells t) .leaf 0) true false)) 1 (.cells 7 [] (ai [.str c.f0,.int .i64 c.f1,.bool false,.int .i64 c.f3.f0,.int .i64 c.f3.f1,.int .u64 c.f3.f2,.str c.f3.f3] .leaf 0) true false)) 2 (.cells 3 [] (ai (af.cells t) .leaf 0) true false)).heap,3⟩)
abbrev abg [Env] (A:Nat→List SV→Prop) (Q:V→St→Prop) (t:af) (c:aj) (p0:Int):Prop:=
 (Q (.tuple [.agg (af.cells t),.int .i64 (p0:Int)]) ⟨(St.new (St.new (St.new Go.Ev.start 0 (.cells 3 [] (ai (af.cells t) .leaf 0) true false)) 1 (.cells 7 [] (ai [.str c.f0,.int .i64 c.f1,.bool true,.int .i64 c.f3.f0,.int .i64 c.f3.f1,.int .u64 c.f3.f2,.str c.f3.f3] .leaf 0) true false)) 2 (.cells 3 [] (ai (af.cells t) .leaf 0) true false)).heap,3⟩)
theorem ac3 [Env] (A:Nat→List SV→Prop) (Q:V→St→Prop) (t:af) (c:aj):WE Tryz.prog 125 Tryz.f125 zY 0 BM A Q [af.enc t,.agg [.str c.f0,.int .i64 c.f1,.bool true,.int .i64 c.f3.f0,.int .i64 c.f3.f1,.int .u64 c.f3.f2,.str c.f3.f3]] Go.Ev.start=
  ((∃MR:aj,[.agg [.str c.f0,.int .i64 c.f1,.bool true,.int .i64 c.f3.f0,.int .i64 c.f3.f1,.int .u64 c.f3.f2,.str c.f3.f3]]=[aj.enc MR]∧mW MR∧((.i64:IntKind)=.i64∧aa (decide ((bO MR)≠(0:Int))) (Q (.tuple [.agg (af.cells t),.int .i64 (bO MR)]) ⟨(St.new (St.new (St.new Go.Ev.start 0 (.cells 3 [] (ai (af.cells t) .leaf 0) true false)) 1 (.cells 7 [] (ai [.str c.f0,.int .i64 c.f1,.bool true,.int .i64 c.f3.f0,.int .i64 c.f3.f1,.int .u64 c.f3.f2,.str c.f3.f3] .leaf 0) true false)) 2 (.cells 3 [] (ai (af.cells t) .leaf 0) true false)).heap,3⟩) ((∃(SG:af) (abh:List UInt8),[.agg (af.cells t),.str c.f0]=[af.enc SG,.str abh]∧SG.f2.length≤1000∧((.i64:IntKind)=.i64∧aa (decide ((aB SG abh)≥(0:Int))) (abg A Q t c 12) (((.i64:IntKind)=.i64∧aa (decide ((((t.f2.length:Nat):Int))≥(8:Int))) (abg A Q t c 2) ((∃(BN:List aj) (SH:Int),[ae aj.enc 7 t.f2,.int .i64 (-1:Int)]=[ae aj.enc 7 BN,.int .i64 SH]∧BN.length≤1000∧((br (fun i=>decide ((i:Int)≠SH)) (fun i=>BN.getD i default) BN.length=[]→Q (.tuple [.agg [.str t.f0,.int .i64 t.f1,.slice 4 0 (1) (1) false 7],.int .i64 (0:Int)]) ⟨(St.new (St.new (St.new (St.new (St.new Go.Ev.start 0 (.cells 3 [] (ai [.str t.f0,.int .i64 t.f1,.slice 4 0 (1) (1) false 7] .leaf 0) true false)) 1 (.cells 7 [] (ai [.str c.f0,.int .i64 c.f1,.bool true,.int .i64 c.f3.f0,.int .i64 c.f3.f1,.int .u64 c.f3.f2,.str c.f3.f3] .leaf 0) true false)) 2 (.cells 3 [] (ai [.str t.f0,.int .i64 t.f1,.slice 4 0 (1) (1) false 7] .leaf 0) true false)) 3 (.cells 7 [] (ai [.str c.f0,.int .i64 c.f1,.bool true,.int .i64 c.f3.f0,.int .i64 c.f3.f1,.int .u64 c.f3.f2,.str c.f3.f3] .leaf 0) true false)) 4 (.cells 7 [] (ai [.str c.f0,.int .i64 c.f1,.bool true,.int .i64 c.f3.f0,.int .i64 c.f3.f1,.int .u64 c.f3.f2,.str c.f3.f3] .leaf 0) true false)).heap,5⟩)∧∀ru abi,0<ru→bu ru abi (br (fun i=>decide ((i:Int)≠SH)) (fun i=>BN.getD i default) BN.length)→((ru=ru∧(ru+1)*72≤1099511627776)∧Q (.tuple [.agg [.str t.f0,.int .i64 t.f1,.own 5 (ru+1) 7],.int .i64 (0:Int)]) ⟨(St.new (St.new (St.new (St.new (St.new Go.Ev.start 0 (.cells 3 [] (ai [.str t.f0,.int .i64 t.f1,.own 5 (ru+1) 7] .leaf 0) true false)) 1 (.cells 7 [] (ai [.str c.f0,.int .i64 c.f1,.bool true,.int .i64 c.f3.f0,.int .i64 c.f3.f1,.int .u64 c.f3.f2,.str c.f3.f3] .leaf 0) true false)) 2 (.cells 3 [] (ai [.str t.f0,.int .i64 t.f1,.own 5 (ru+1) 7] .leaf 0) true false)) 4 (.cells 7 [] (ai [.str c.f0,.int .i64 c.f1,.bool true,.int .i64 c.f3.f0,.int .i64 c.f3.f1,.int .u64 c.f3.f2,.str c.f3.f3] .leaf 0) true false)) 5 (.row (ru+1) (dL ru abi (fun _=>.agg [.str c.f0,.int .i64 c.f1,.bool true,.int .i64 c.f3.f0,.int .i64 c.f3.f1,.int .u64 c.f3.f2,.str c.f3.f3])) 7 false)).heap,6⟩)))))))))))):=by kernel_rfl
theorem ac4 [Env] (A:Nat→List SV→Prop) (Q:V→St→Prop) (t:af) (c:aj):WE Tryz.prog 125 Tryz.f125 zY 0 BM A Q [af.enc t,.agg [.str c.f0,.int .i64 c.f1,.bool false,.int .i64 c.f3.f0,.int .i64 c.f3.f1,.int .u64 c.f3.f2,.str c.f3.f3]] Go.Ev.start=
  ((∃MS:aj,[.agg [.str c.f0,.int .i64 c.f1,.bool false,.int .i64 c.f3.f0,.int .i64 c.f3.f1,.int .u64 c.f3.f2,.str c.f3.f3]]=[aj.enc MS]∧mW MS∧((.i64:IntKind)=.i64∧aa (decide ((bO MS)≠(0:Int))) (Q (.tuple [.agg (af.cells t),.int .i64 (bO MS)]) ⟨(St.new (St.new (St.new Go.Ev.start 0 (.cells 3 [] (ai (af.cells t) .leaf 0) true false)) 1 (.cells 7 [] (ai [.str c.f0,.int .i64 c.f1,.bool false,.int .i64 c.f3.f0,.int .i64 c.f3.f1,.int .u64 c.f3.f2,.str c.f3.f3] .leaf 0) true false)) 2 (.cells 3 [] (ai (af.cells t) .leaf 0) true false)).heap,3⟩) ((∃(SI:af) (abj:List UInt8),[.agg (af.cells t),.str c.f0]=[af.enc SI,.str abj]∧SI.f2.length≤1000∧((.i64:IntKind)=.i64∧aa (decide ((aB SI abj)≥(0:Int))) (SF A Q t c 12) (((.i64:IntKind)=.i64∧aa (decide ((((t.f2.length:Nat):Int))≥(8:Int))) (SF A Q t c 2) (((.i64:IntKind)=.i64∧aa (decide (c.f3.f0=(0:Int))) (SF A Q t c 11) ((∃(BO:List aj) (E4:Int),[ae aj.enc 7 t.f2,.int .i64 (-1:Int)]=[ae aj.enc 7 BO,.int .i64 E4]∧BO.length≤1000∧((br (fun i=>decide ((i:Int)≠E4)) (fun i=>BO.getD i default) BO.length=[]→Q (.tuple [.agg [.str t.f0,.int .i64 t.f1,.slice 4 0 (1) (1) false 7],.int .i64 (0:Int)]) ⟨(St.new (St.new (St.new (St.new (St.new Go.Ev.start 0 (.cells 3 [] (ai [.str t.f0,.int .i64 t.f1,.slice 4 0 (1) (1) false 7] .leaf 0) true false)) 1 (.cells 7 [] (ai [.str c.f0,.int .i64 c.f1,.bool false,.int .i64 c.f3.f0,.int .i64 c.f3.f1,.int .u64 c.f3.f2,.str c.f3.f3] .leaf 0) true false)) 2 (.cells 3 [] (ai [.str t.f0,.int .i64 t.f1,.slice 4 0 (1) (1) false 7] .leaf 0) true false)) 3 (.cells 7 [] (ai [.str c.f0,.int .i64 c.f1,.bool false,.int .i64 c.f3.f0,.int .i64 c.f3.f1,.int .u64 c.f3.f2,.str c.f3.f3] .leaf 0) true false)) 4 (.cells 7 [] (ai [.str c.f0,.int .i64 c.f1,.bool false,.int .i64 c.f3.f0,.int .i64 c.f3.f1,.int .u64 c.f3.f2,.str c.f3.f3] .leaf 0) true false)).heap,5⟩)∧∀rv abk,0<rv→bu rv abk (br (fun i=>decide ((i:Int)≠E4)) (fun i=>BO.getD i default) BO.length)→((rv=rv∧(rv+1)*72≤1099511627776)∧Q (.tuple [.agg [.str t.f0,.int .i64 t.f1,.own 5 (rv+1) 7],.int .i64 (0:Int)]) ⟨(St.new (St.new (St.new (St.new (St.new Go.Ev.start 0 (.cells 3 [] (ai [.str t.f0,.int .i64 t.f1,.own 5 (rv+1) 7] .leaf 0) true false)) 1 (.cells 7 [] (ai [.str c.f0,.int .i64 c.f1,.bool false,.int .i64 c.f3.f0,.int .i64 c.f3.f1,.int .u64 c.f3.f2,.str c.f3.f3] .leaf 0) true false)) 2 (.cells 3 [] (ai [.str t.f0,.int .i64 t.f1,.own 5 (rv+1) 7] .leaf 0) true false)) 4 (.cells 7 [] (ai [.str c.f0,.int .i64 c.f1,.bool false,.int .i64 c.f3.f0,.int .i64 c.f3.f1,.int .u64 c.f3.f2,.str c.f3.f3] .leaf 0) true false)) 5 (.row (rv+1) (dL rv abk (fun _=>.agg [.str c.f0,.int .i64 c.f1,.bool false,.int .i64 c.f3.f0,.int .i64 c.f3.f1,.int .u64 c.f3.f2,.str c.f3.f3])) 7 false)).heap,6⟩)))))))))))))):=by kernel_rfl
def abl [Env] (vs:List V) (σ:St) (k:ah):Prop:=
 ∃(t:af) (c:aj),vs=[af.enc t,aj.enc c]∧(mW c∧0<t.f2.length∧t.f2.length≤1000)∧k (.tuple [af.enc (wo t c),.int .i64 (k5 t c)]) σ
def Ds [Env]:=kS 125 abl zY
def Kv:Nat→List Nat:=(fun _=>[])
theorem ahU [Env] (A:Nat→List SV→Prop) (Q:V→St→Prop) (t:af) (s:List UInt8) (d:Int):WE Tryz.prog 126 Tryz.f126 Ds 0 Kv A Q [af.enc t,.str s,.int .i64 d] Go.Ev.start=
  ((∃(bI:af) (bJ:List UInt8),[.agg (af.cells t),.str s]=[af.enc bI,.str bJ]∧bI.f2.length≤1000∧((.i64:IntKind)=.i64∧aa (decide ((aB bI bJ)<t.f1)) (Q (.tuple [.agg (af.cells t),.int .i64 (10:Int)]) ⟨(St.new (St.new Go.Ev.start 0 (.cells 3 [] (ai (af.cells t) .leaf 0) true false)) 1 (.cells 3 [] (ai (af.cells t) .leaf 0) true false)).heap,2⟩) (((0≤(aB bI bJ)∧(aB bI bJ)<((t.f2.length:Nat):Int))∧aa ((!(jh ((t.f2.getD (aB bI bJ).toNat default).f1) d))) (Q (.tuple [.agg (af.cells t),.int .i64 (5:Int)]) ⟨(St.new (St.new (St.new Go.Ev.start 0 (.cells 3 [] (ai (af.cells t) .leaf 0) true false)) 1 (.cells 3 [] (ai (af.cells t) .leaf 0) true false)) 2 (.cells 7 [] (ai (aj.cells (t.f2.getD (aB bI bJ).toNat default)) .leaf 0) true false)).heap,3⟩) ((zP (⟨((t.f2.getD (aB bI bJ).toNat default).f3.f0),((t.f2.getD (aB bI bJ).toNat default).f3.f1),((t.f2.getD (aB bI bJ).toNat default).f3.f2),((t.f2.getD (aB bI bJ).toNat default).f3.f3)⟩:az)∧((.i64:IntKind)=.i64∧aa (decide ((FB (⟨((t.f2.getD (aB bI bJ).toNat default).f3.f0),((t.f2.getD (aB bI bJ).toNat default).f3.f1),((t.f2.getD (aB bI bJ).toNat default).f3.f2),((t.f2.getD (aB bI bJ).toNat default).f3.f3)⟩:az) d)≠(0:Int))) ((∃(BP:List aj) (FD:Int),[ae aj.enc 7 t.f2,.int .i64 (-1:Int)]=[ae aj.enc 7 BP,.int .i64 FD]∧BP.length≤1000∧((br (fun i=>decide ((i:Int)≠FD)) (fun i=>BP.getD i default) BP.length=[]→False)∧∀wx abm,0<wx→bu wx abm (br (fun i=>decide ((i:Int)≠FD)) (fun i=>BP.getD i default) BP.length)→((0≤(aB bI bJ)∧(aB bI bJ)<((wx:Nat):Int))∧((aB bI bJ).toNat<wx∧Q (.tuple [.agg [.str t.f0,.int .i64 t.f1,.own 4 wx 7],.int .i64 (0:Int)]) ⟨(St.new (St.new (St.new (St.new (St.new Go.Ev.start 0 (.cells 3 [] (ai [.str t.f0,.int .i64 t.f1,.own 4 wx 7] .leaf 0) true false)) 1 (.cells 3 [] (ai [.str t.f0,.int .i64 t.f1,.own 4 wx 7] .leaf 0) true false)) 2 (.cells 7 [] (ai [.str ((t.f2.getD (aB bI bJ).toNat default).f0),.int .i64 d,.bool (t.f2.getD (aB bI bJ).toNat default).f2,.int .i64 (0:Int),.int .i64 (0:Int),.int .u64 (0:Int),.str ([])] .leaf 0) true false)) 3 (.cells 4 [] (ai [.int .i64 (0:Int),.int .i64 (0:Int),.int .u64 (0:Int),.str ([])] .leaf 0) true false)) 4 (.row wx (e9 abm (aB bI bJ).toNat (.agg [.str ((t.f2.getD (aB bI bJ).toNat default).f0),.int .i64 d,.bool (t.f2.getD (aB bI bJ).toNat default).f2,.int .i64 (0:Int),.int .i64 (0:Int),.int .u64 (0:Int),.str ([])])) 7 false)).heap,5⟩))))) ((∃(BQ:List aj) (SJ:Int),[ae aj.enc 7 t.f2,.int .i64 (-1:Int)]=[ae aj.enc 7 BQ,.int .i64 SJ]∧BQ.length≤1000∧((br (fun i=>decide ((i:Int)≠SJ)) (fun i=>BQ.getD i default) BQ.length=[]→False)∧∀wy abn,0<wy→bu wy abn (br (fun i=>decide ((i:Int)≠SJ)) (fun i=>BQ.getD i default) BQ.length)→((0≤(aB bI bJ)∧(aB bI bJ)<((wy:Nat):Int))∧((aB bI bJ).toNat<wy∧Q (.tuple [.agg [.str t.f0,.int .i64 t.f1,.own 4 wy 7],.int .i64 (0:Int)]) ⟨(St.new (St.new (St.new (St.new (St.new Go.Ev.start 0 (.cells 3 [] (ai [.str t.f0,.int .i64 t.f1,.own 4 wy 7] .leaf 0) true false)) 1 (.cells 3 [] (ai [.str t.f0,.int .i64 t.f1,.own 4 wy 7] .leaf 0) true false)) 2 (.cells 7 [] (ai [.str ((t.f2.getD (aB bI bJ).toNat default).f0),.int .i64 d,.bool (t.f2.getD (aB bI bJ).toNat default).f2,.int .i64 ((j3 (⟨((t.f2.getD (aB bI bJ).toNat default).f3.f0),((t.f2.getD (aB bI bJ).toNat default).f3.f1),((t.f2.getD (aB bI bJ).toNat default).f3.f2),((t.f2.getD (aB bI bJ).toNat default).f3.f3)⟩:az) d).f0),.int .i64 ((j3 (⟨((t.f2.getD (aB bI bJ).toNat default).f3.f0),((t.f2.getD (aB bI bJ).toNat default).f3.f1),((t.f2.getD (aB bI bJ).toNat default).f3.f2),((t.f2.getD (aB bI bJ).toNat default).f3.f3)⟩:az) d).f1),.int .u64 ((j3 (⟨((t.f2.getD (aB bI bJ).toNat default).f3.f0),((t.f2.getD (aB bI bJ).toNat default).f3.f1),((t.f2.getD (aB bI bJ).toNat default).f3.f2),((t.f2.getD (aB bI bJ).toNat default).f3.f3)⟩:az) d).f2),.str ((j3 (⟨((t.f2.getD (aB bI bJ).toNat default).f3.f0),((t.f2.getD (aB bI bJ).toNat default).f3.f1),((t.f2.getD (aB bI bJ).toNat default).f3.f2),((t.f2.getD (aB bI bJ).toNat default).f3.f3)⟩:az) d).f3)] .leaf 0) true false)) 3 (.cells 4 [] (ai [.int .i64 ((j3 (⟨((t.f2.getD (aB bI bJ).toNat default).f3.f0),((t.f2.getD (aB bI bJ).toNat default).f3.f1),((t.f2.getD (aB bI bJ).toNat default).f3.f2),((t.f2.getD (aB bI bJ).toNat default).f3.f3)⟩:az) d).f0),.int .i64 ((j3 (⟨((t.f2.getD (aB bI bJ).toNat default).f3.f0),((t.f2.getD (aB bI bJ).toNat default).f3.f1),((t.f2.getD (aB bI bJ).toNat default).f3.f2),((t.f2.getD (aB bI bJ).toNat default).f3.f3)⟩:az) d).f1),.int .u64 ((j3 (⟨((t.f2.getD (aB bI bJ).toNat default).f3.f0),((t.f2.getD (aB bI bJ).toNat default).f3.f1),((t.f2.getD (aB bI bJ).toNat default).f3.f2),((t.f2.getD (aB bI bJ).toNat default).f3.f3)⟩:az) d).f2),.str ((j3 (⟨((t.f2.getD (aB bI bJ).toNat default).f3.f0),((t.f2.getD (aB bI bJ).toNat default).f3.f1),((t.f2.getD (aB bI bJ).toNat default).f3.f2),((t.f2.getD (aB bI bJ).toNat default).f3.f3)⟩:az) d).f3)] .leaf 0) true false)) 4 (.row wy (e9 abn (aB bI bJ).toNat (.agg [.str ((t.f2.getD (aB bI bJ).toNat default).f0),.int .i64 d,.bool (t.f2.getD (aB bI bJ).toNat default).f2,.int .i64 ((j3 (⟨((t.f2.getD (aB bI bJ).toNat default).f3.f0),((t.f2.getD (aB bI bJ).toNat default).f3.f1),((t.f2.getD (aB bI bJ).toNat default).f3.f2),((t.f2.getD (aB bI bJ).toNat default).f3.f3)⟩:az) d).f0),.int .i64 ((j3 (⟨((t.f2.getD (aB bI bJ).toNat default).f3.f0),((t.f2.getD (aB bI bJ).toNat default).f3.f1),((t.f2.getD (aB bI bJ).toNat default).f3.f2),((t.f2.getD (aB bI bJ).toNat default).f3.f3)⟩:az) d).f1),.int .u64 ((j3 (⟨((t.f2.getD (aB bI bJ).toNat default).f3.f0),((t.f2.getD (aB bI bJ).toNat default).f3.f1),((t.f2.getD (aB bI bJ).toNat default).f3.f2),((t.f2.getD (aB bI bJ).toNat default).f3.f3)⟩:az) d).f2),.str ((j3 (⟨((t.f2.getD (aB bI bJ).toNat default).f3.f0),((t.f2.getD (aB bI bJ).toNat default).f3.f1),((t.f2.getD (aB bI bJ).toNat default).f3.f2),((t.f2.getD (aB bI bJ).toNat default).f3.f3)⟩:az) d).f3)])) 7 false)).heap,5⟩))))))))))))):=by kernel_rfl
def abo [Env] (vs:List V) (σ:St) (k:ah):Prop:=
 ∃(t:af) (s:List UInt8) (d:Int),vs=[af.enc t,.str s,.int .i64 d]∧(e8 t∧1≤t.f1∧0<t.f2.length∧t.f2.length≤1000)∧k (.tuple [af.enc (wq t s d),.int .i64 (rq t s d)]) σ
def Dt [Env]:=kS 126 abo Ds
def Kw:Nat→List Nat:=(fun _=>[])
theorem ahV [Env] (A:Nat→List SV→Prop) (Q:V→St→Prop) (l:List af) (c:an):WE Tryz.prog 123 Tryz.f123 Dt 0 Kw A Q [ae af.enc 3 l,an.enc c] Go.Ev.start=
  (aa (decide (c.f1=c.f2)) (Q (.tuple [.ak,.int .i64 (12:Int)]) ⟨(St.new Go.Ev.start 0 (.cells 18 [] (ai (an.cells c) .leaf 0) true false)).heap,1⟩) (((.i64:IntKind)=.i64∧aa (decide ((aK c.f3)≠(0:Int))) (Q (.tuple [.ak,.int .i64 (aK c.f3)]) ⟨(St.new Go.Ev.start 0 (.cells 18 [] (ai (an.cells c) .leaf 0) true false)).heap,1⟩) ((∃(oF:List af) (qk:List UInt8),[ae af.enc 3 l,.str c.f1]=[ae af.enc 3 oF,.str qk]∧oF.length≤1000000∧((0≤(aS oF qk)∧(aS oF qk)<((l.length:Nat):Int))∧(∃(tP:List af) (wz:List UInt8),[ae af.enc 3 l,.str c.f2]=[ae af.enc 3 tP,.str wz]∧tP.length≤1000000∧((0≤(aS tP wz)∧(aS tP wz)<((l.length:Nat):Int))∧((.i64:IntKind)=.i64∧aa (decide (((l.getD (aS oF qk).toNat default).f1)≠((l.getD (aS tP wz).toNat default).f1))) (Q (.tuple [.ak,.int .i64 (11:Int)]) ⟨(St.new (St.new (St.new Go.Ev.start 0 (.cells 18 [] (ai (an.cells c) .leaf 0) true false)) 1 (.cells 3 [] (ai (af.cells (l.getD (aS oF qk).toNat default)) .leaf 0) true false)) 2 (.cells 3 [] (ai (af.cells (l.getD (aS tP wz).toNat default)) .leaf 0) true false)).heap,3⟩) ((∃SK abp:List aj,[ae aj.enc 7 ((l.getD (aS oF qk).toNat default).f2),ae aj.enc 7 ((l.getD (aS tP wz).toNat default).f2)]=[ae aj.enc 7 SK,ae aj.enc 7 abp]∧SK.length≤1000000∧∀Mm:Bool,(Mm=true↔SK=abp)→aa ((!Mm)) (Q (.tuple [.ak,.int .i64 (11:Int)]) ⟨(St.new (St.new (St.new Go.Ev.start 0 (.cells 18 [] (ai (an.cells c) .leaf 0) true false)) 1 (.cells 3 [] (ai (af.cells (l.getD (aS oF qk).toNat default)) .leaf 0) true false)) 2 (.cells 3 [] (ai (af.cells (l.getD (aS tP wz).toNat default)) .leaf 0) true false)).heap,3⟩) (Q (.tuple [.slice 3 0 (1) (1) true 3,.int .i64 (0:Int)]) ⟨(St.new (St.new (St.new (St.new Go.Ev.start 0 (.cells 18 [] (ai (an.cells c) .leaf 0) true false)) 1 (.cells 3 [] (ai [.str c.f3,.int .i64 ((l.getD (aS oF qk).toNat default).f1),ae aj.enc 7 ((l.getD (aS oF qk).toNat default).f2)] .leaf 0) true false)) 2 (.cells 3 [] (ai (af.cells (l.getD (aS tP wz).toNat default)) .leaf 0) true false)) 3 (.cells 3 [] (ai [.str c.f3,.int .i64 ((l.getD (aS oF qk).toNat default).f1),ae aj.enc 7 ((l.getD (aS oF qk).toNat default).f2)] .leaf 0) true false)).heap,4⟩)))))))))))):=by kernel_rfl
def abq [Env] (vs:List V) (σ:St) (k:ah):Prop:=
 ∃(l:List af) (c:an),vs=[ae af.enc 3 l,an.enc c]∧(l.length≤1000∧0≤aS l c.f1∧0≤aS l c.f2∧∀t∈l,t.f2.length≤1000)∧k (.tuple [ae af.enc 3 (FX (aD l c.f1) (aD l c.f2) c),.int .i64 (lW (aD l c.f1) (aD l c.f2) c)]) σ
def tQ [Env]:=kS 123 abq Dt
def sC:Nat→List Nat:=(fun i=>match i with | 0=>[2,3,8] | 1=>[2,3,9,10,11] | _=>[])
theorem ahW [Env] (A:Nat→List SV→Prop) (Q:V→St→Prop) (t:af) (c:an):WE Tryz.prog 124 Tryz.f124 tQ 0 sC A Q [af.enc t,an.enc c] Go.Ev.start=
  (((.i64:IntKind)=.i64∧aa (decide ((aK c.f3)≠(0:Int))) (Q (.tuple [.ak,.int .i64 (aK c.f3)]) ⟨(St.new (St.new Go.Ev.start 0 (.cells 3 [] (ai (af.cells t) .leaf 0) true false)) 1 (.cells 18 [] (ai (an.cells c) .leaf 0) true false)).heap,2⟩) (((.i64:IntKind)=.i64∧aa (decide ((aK c.f4)≠(0:Int))) (Q (.tuple [.ak,.int .i64 (aK c.f4)]) ⟨(St.new (St.new Go.Ev.start 0 (.cells 3 [] (ai (af.cells t) .leaf 0) true false)) 1 (.cells 18 [] (ai (an.cells c) .leaf 0) true false)).heap,2⟩) (aa (decide (c.f3=c.f4)) (Q (.tuple [.ak,.int .i64 (12:Int)]) ⟨(St.new (St.new Go.Ev.start 0 (.cells 3 [] (ai (af.cells t) .leaf 0) true false)) 1 (.cells 18 [] (ai (an.cells c) .leaf 0) true false)).heap,2⟩) (A 0 [.box (af.cells t),.box (an.cells c),.val (.int .i64 (0:Int))])))))):=by kernel_rfl
theorem ac5 [Env] (A:Nat→List SV→Prop) (Q:V→St→Prop) (c:an) (t:af) (i:Int):WL Tryz.prog 124 Tryz.f124 tQ 0 sC A Q 0 [.box (af.cells t),.box (an.cells c),.val (.int .i64 i)]=
  (((.i64:IntKind)=.i64∧aa (decide (i<(((c.f7.length:Nat):Int)))) (((0≤i∧i<((c.f7.length:Nat):Int))∧(∃(SL:af) (abr:List UInt8),[.agg (af.cells t),.str ((c.f7.getD i.toNat default))]=[af.enc SL,.str abr]∧SL.f2.length≤1000∧aa (V.beq (.int .i64 t.f1) (.int .i64 t.f1)&&true) (((.i64:IntKind)=.i64∧aa (decide ((aB SL abr)<t.f1)) (Q (.tuple [.ak,.int .i64 (10:Int)]) ⟨(St.new (St.new Go.Ev.start 0 (.cells 3 [] (ai (af.cells t) .leaf 0) false false)) 1 (.cells 18 [] (ai (an.cells c) .leaf 0) false false)).heap,24⟩) (((0≤i∧i<((c.f7.length:Nat):Int))∧(∃q:Nat→List UInt8,(fun i=>V.str (c.f7.getD i default))=(fun i=>V.str (q i))∧c.f7.length≤1000000∧((.i64:IntKind)=.i64∧aa (decide ((ct ((c.f7.getD i.toNat default)) q c.f7.length)≠i)) (Q (.tuple [.ak,.int .i64 (10:Int)]) ⟨(St.new (St.new Go.Ev.start 0 (.cells 3 [] (ai (af.cells t) .leaf 0) false false)) 1 (.cells 18 [] (ai (an.cells c) .leaf 0) false false)).heap,24⟩) (A 0 [.box (af.cells t),.box (an.cells c),.val (.int .i64 (IntKind.i64.wrap (i+(1:Int))))]))))))) False))) (A 1 [.box (af.cells t),.box (an.cells c),.box [.str c.f3,.int .i64 t.f1,.ak],.box [.str c.f4,.int .i64 t.f1,.ak],.val (.int .i64 (0:Int))]))):=by kernel_rfl
abbrev MT [Env] (A:Nat→List SV→Prop) (Q:V→St→Prop) (c:an) (t:af) (i:Int):Prop:=
 ((0≤i∧i<((t.f2.length:Nat):Int))∧(((1:Nat)=1∧(1:Nat)=1∧1*7=1*7)∧(((1:Nat)=1∧(1:Nat)=1∧1*7=1*7)∧A 1 [.box (af.cells t),.box (an.cells c),.nest (.ptr) [.val (.str c.f3),.val (.int .i64 t.f1),.row 1 (fun _=>.agg (aj.cells (t.f2.getD i.toNat default))) 7],.nest (.ptr) [.val (.str c.f4),.val (.int .i64 t.f1),.row 1 (fun _=>.agg (aj.cells (t.f2.getD i.toNat default))) 7],.val (.int .i64 (IntKind.i64.wrap (i+(1:Int))))])))
abbrev SM [Env] (A:Nat→List SV→Prop) (Q:V→St→Prop) (c:an) (t:af) (i:Int):Prop:=
 ((0≤i∧i<((t.f2.length:Nat):Int))∧((.i64:IntKind)=.i64∧aa (decide (i<t.f1)) ((MT A Q c t i)) ((((1:Nat)=1∧(1:Nat)=1∧1*7=1*7)∧A 1 [.box (af.cells t),.box (an.cells c),.nest (.ptr) [.val (.str c.f3),.val (.int .i64 t.f1),.row 1 (fun _=>.agg (aj.cells (t.f2.getD i.toNat default))) 7],.box [.str c.f4,.int .i64 t.f1,.ak],.val (.int .i64 (IntKind.i64.wrap (i+(1:Int))))]))))
abbrev SN [Env] (A:Nat→List SV→Prop) (Q:V→St→Prop) (c:an) (t:af) (i:Int):Prop:=
 ((0≤i∧i<((t.f2.length:Nat):Int))∧(((1:Nat)=1∧(1:Nat)=1∧1*7=1*7)∧A 1 [.box (af.cells t),.box (an.cells c),.box [.str c.f3,.int .i64 t.f1,.ak],.nest (.ptr) [.val (.str c.f4),.val (.int .i64 t.f1),.row 1 (fun _=>.agg (aj.cells (t.f2.getD i.toNat default))) 7],.val (.int .i64 (IntKind.i64.wrap (i+(1:Int))))]))
theorem ac6 [Env] (A:Nat→List SV→Prop) (Q:V→St→Prop) (c:an) (t:af) (i:Int):WL Tryz.prog 124 Tryz.f124 tQ 0 sC A Q 1 [.box (af.cells t),.box (an.cells c),.box [.str c.f3,.int .i64 t.f1,.ak],.box [.str c.f4,.int .i64 t.f1,.ak],.val (.int .i64 i)]=
  (((.i64:IntKind)=.i64∧aa (decide (i<(((t.f2.length:Nat):Int)))) (((0≤i∧i<((t.f2.length:Nat):Int))∧(∃q:Nat→List UInt8,(fun i=>V.str (c.f7.getD i default))=(fun i=>V.str (q i))∧c.f7.length≤1000000∧((.i64:IntKind)=.i64∧aa (decide ((ct ((t.f2.getD i.toNat default).f0) q c.f7.length)≥(0:Int))) (((.i64:IntKind)=.i64∧aa (decide (i<t.f1)) ((SM A Q c t i)) ((SM A Q c t i)))) (((.i64:IntKind)=.i64∧aa (decide (i<t.f1)) (((0≤i∧i<((t.f2.length:Nat):Int))∧((.i64:IntKind)=.i64∧aa (decide (i<t.f1)) ((MT A Q c t i)) ((MT A Q c t i))))) (((.i64:IntKind)=.i64∧aa (decide (i<t.f1)) ((SN A Q c t i)) ((SN A Q c t i)))))))))) (Q (.tuple [.slice 4 0 (2) (2) true 3,.int .i64 (0:Int)]) ⟨(St.new (St.new (St.new (St.new (St.new Go.Ev.start 0 (.cells 3 [] (ai (af.cells t) .leaf 0) false false)) 1 (.cells 18 [] (ai (an.cells c) .leaf 0) false false)) 2 (.cells 3 [] (ai [.str c.f3,.int .i64 t.f1,.ak] .leaf 0) false false)) 3 (.cells 3 [] (ai [.str c.f4,.int .i64 t.f1,.ak] .leaf 0) false false)) 4 (.cells 6 [] (ai [.str c.f3,.int .i64 t.f1,.ak,.str c.f4,.int .i64 t.f1,.ak] .leaf 0) true false)).heap,5⟩))):=by kernel_rfl
abbrev MU [Env] (A:Nat→List SV→Prop) (Q:V→St→Prop) (c:an) (t:af) (a b:Nat) (f g:Nat→V) (i:Int):Prop:=
 ((0≤i∧i<((t.f2.length:Nat):Int))∧((b=b∧(b+1)*72≤1099511627776)∧(((a+1)=(a+1)∧7=7)∧(((b+1)=(b+1)∧7=7)∧A 1 [.box (af.cells t),.box (an.cells c),.nest (.ptr) [.val (.str c.f3),.val (.int .i64 t.f1),.row (a+1) (dL a f (fun _=>.agg (aj.cells (t.f2.getD i.toNat default)))) 7],.nest (.ptr) [.val (.str c.f4),.val (.int .i64 t.f1),.row (b+1) (dL b g (fun _=>.agg (aj.cells (t.f2.getD i.toNat default)))) 7],.val (.int .i64 (IntKind.i64.wrap (i+(1:Int))))]))))
abbrev SO [Env] (A:Nat→List SV→Prop) (Q:V→St→Prop) (c:an) (t:af) (a b:Nat) (f g:Nat→V) (i:Int):Prop:=
 ((0≤i∧i<((t.f2.length:Nat):Int))∧((a=a∧(a+1)*72≤1099511627776)∧((.i64:IntKind)=.i64∧aa (decide (i<t.f1)) ((MU A Q c t a b f g i)) ((((a+1)=(a+1)∧7=7)∧((b=b∧7=7)∧A 1 [.box (af.cells t),.box (an.cells c),.nest (.ptr) [.val (.str c.f3),.val (.int .i64 t.f1),.row (a+1) (dL a f (fun _=>.agg (aj.cells (t.f2.getD i.toNat default)))) 7],.nest (.ptr) [.val (.str c.f4),.val (.int .i64 t.f1),.row b g 7],.val (.int .i64 (IntKind.i64.wrap (i+(1:Int))))]))))))
abbrev SQ [Env] (A:Nat→List SV→Prop) (Q:V→St→Prop) (c:an) (t:af) (a b:Nat) (f g:Nat→V) (i:Int):Prop:=
 ((0≤i∧i<((t.f2.length:Nat):Int))∧((b=b∧(b+1)*72≤1099511627776)∧((a=a∧7=7)∧(((b+1)=(b+1)∧7=7)∧A 1 [.box (af.cells t),.box (an.cells c),.nest (.ptr) [.val (.str c.f3),.val (.int .i64 t.f1),.row a f 7],.nest (.ptr) [.val (.str c.f4),.val (.int .i64 t.f1),.row (b+1) (dL b g (fun _=>.agg (aj.cells (t.f2.getD i.toNat default)))) 7],.val (.int .i64 (IntKind.i64.wrap (i+(1:Int))))]))))
theorem ac7 [Env] (A:Nat→List SV→Prop) (Q:V→St→Prop) (c:an) (t:af) (a b:Nat) (f g:Nat→V) (i:Int):WL Tryz.prog 124 Tryz.f124 tQ 0 sC A Q 1 [.box (af.cells t),.box (an.cells c),.nest (.ptr) [.val (.str c.f3),.val (.int .i64 t.f1),.row a f 7],.nest (.ptr) [.val (.str c.f4),.val (.int .i64 t.f1),.row b g 7],.val (.int .i64 i)]=
  (((.i64:IntKind)=.i64∧aa (decide (i<(((t.f2.length:Nat):Int)))) (((0≤i∧i<((t.f2.length:Nat):Int))∧(∃q:Nat→List UInt8,(fun i=>V.str (c.f7.getD i default))=(fun i=>V.str (q i))∧c.f7.length≤1000000∧((.i64:IntKind)=.i64∧aa (decide ((ct ((t.f2.getD i.toNat default).f0) q c.f7.length)≥(0:Int))) (((.i64:IntKind)=.i64∧aa (decide (i<t.f1)) ((SO A Q c t a b f g i)) ((SO A Q c t a b f g i)))) (((.i64:IntKind)=.i64∧aa (decide (i<t.f1)) (((0≤i∧i<((t.f2.length:Nat):Int))∧((a=a∧(a+1)*72≤1099511627776)∧((.i64:IntKind)=.i64∧aa (decide (i<t.f1)) ((MU A Q c t a b f g i)) ((MU A Q c t a b f g i)))))) (((.i64:IntKind)=.i64∧aa (decide (i<t.f1)) ((SQ A Q c t a b f g i)) ((SQ A Q c t a b f g i)))))))))) (Q (.tuple [.slice 6 0 (2) (2) true 3,.int .i64 (0:Int)]) ⟨(St.new (St.new (St.new (St.new (St.new (St.new (St.new Go.Ev.start 0 (.cells 3 [] (ai (af.cells t) .leaf 0) false false)) 1 (.cells 18 [] (ai (an.cells c) .leaf 0) false false)) 2 (.cells 3 [] (ai [.str c.f3,.int .i64 t.f1,.own 3 a 7] .leaf 0) false false)) 3 (.row a f 7 false)) 4 (.cells 3 [] (ai [.str c.f4,.int .i64 t.f1,.own 5 b 7] .leaf 0) false false)) 5 (.row b g 7 false)) 6 (.cells 6 [] (ai [.str c.f3,.int .i64 t.f1,.own 3 a 7,.str c.f4,.int .i64 t.f1,.own 5 b 7] .leaf 0) true false)).heap,7⟩))):=by kernel_rfl
def abt [Env] (vs:List V) (σ:St) (k:ah):Prop:=
 ∃(t:af) (c:an),vs=[af.enc t,an.enc c]∧(c.f7.length≤1000000∧1≤t.f1∧0<t.f2.length∧t.f2.length≤1000)∧k (.tuple [ae af.enc 3 (FW t c),.int .i64 (k6 t c)]) σ
def Du [Env]:=kS 124 abt tQ
end Go.Proofs.YtbajncpfmemdgaaGreatDoor
end
section
namespace Go.Proofs.YtbajncpfmemdgaaGreatDoor
open Go Go.Ev
def Pg:Nat→List Nat:=(fun _=>[])
theorem e75 [Env] (A:Nat→List SV→Prop) (Q:V→St→Prop) (l:List af) (c:an):WE Tryz.prog 75 Tryz.f75 Du 0 Pg A Q [ae af.enc 3 l,an.enc c] Go.Ev.start=
  (((.i64:IntKind)=.i64∧aa (decide (c.f0=(1:Int))) ((∃SR:af,[.agg (af.cells c.f9)]=[af.enc SR]∧ga SR∧aa (V.beq (.agg (af.cells c.f9)) (.agg (af.cells c.f9))&&true) (Q (.tuple [.slice 3 0 (1) (1) true 3,.int .i64 (bR SR)]) ⟨(St.new (St.new Go.Ev.start 0 (.cells 18 [] (ai (an.cells c) .leaf 0) true false)) 3 (.cells 3 [] (ai (af.cells c.f9) .leaf 0) true false)).heap,9⟩) False)) (((.i64:IntKind)=.i64∧aa (decide (c.f0=(6:Int))) ((∃(tR:List af) (tS:an),[ae af.enc 3 l,.agg (an.cells c)]=[ae af.enc 3 tR,an.enc tS]∧(tR.length≤1000∧0≤aS tR tS.f1∧0≤aS tR tS.f2∧∀t∈tR,t.f2.length≤1000)∧Q (.tuple [ae af.enc 3 ((FX (aD tR tS.f1) (aD tR tS.f2) tS)),.int .i64 (lW (aD tR tS.f1) (aD tR tS.f2) tS)]) ⟨(St.new Go.Ev.start 0 (.cells 18 [] (ai (an.cells c) .leaf 0) true false)).heap,1⟩)) ((∃(jk:List af) (jK:List UInt8),[ae af.enc 3 l,.str c.f1]=[ae af.enc 3 jk,.str jK]∧jk.length≤1000000∧((0≤(aS jk jK)∧(aS jk jK)<((l.length:Nat):Int))∧((.i64:IntKind)=.i64∧aa (decide (c.f0=(5:Int))) ((∃(BR:af) (MV:an),[.agg (af.cells (l.getD (aS jk jK).toNat default)),.agg (an.cells c)]=[af.enc BR,an.enc MV]∧(MV.f7.length≤1000000∧1≤BR.f1∧0<BR.f2.length∧BR.f2.length≤1000)∧Q (.tuple [ae af.enc 3 ((FW BR MV)),.int .i64 (k6 BR MV)]) ⟨(St.new (St.new Go.Ev.start 0 (.cells 18 [] (ai (an.cells c) .leaf 0) true false)) 1 (.cells 3 [] (ai (af.cells (l.getD (aS jk jK).toNat default)) .leaf 0) true false)).heap,2⟩)) (((.i64:IntKind)=.i64∧aa (decide (c.f0=(2:Int))) ((∃(BS:af) (Gr:aj),[.agg (af.cells (l.getD (aS jk jK).toNat default)),.agg (aj.cells c.f8)]=[af.enc BS,aj.enc Gr]∧(mW Gr∧0<BS.f2.length∧BS.f2.length≤1000)∧Q (.tuple [.slice 2 0 (1) (1) true 3,.int .i64 (k5 BS Gr)]) ⟨(St.new (St.new (St.new Go.Ev.start 0 (.cells 18 [] (ai (an.cells c) .leaf 0) true false)) 1 (.cells 3 [] (ai (af.cells (wo BS Gr)) .leaf 0) true false)) 2 (.cells 3 [] (ai (af.cells (wo BS Gr)) .leaf 0) true false)).heap,3⟩)) (((.i64:IntKind)=.i64∧aa (decide (c.f0=(4:Int))) ((∃(wA:af) (MW:List UInt8) (Bi:Int),[.agg (af.cells (l.getD (aS jk jK).toNat default)),.str c.f5,.int .i64 c.f6]=[af.enc wA,.str MW,.int .i64 Bi]∧(e8 wA∧1≤wA.f1∧0<wA.f2.length∧wA.f2.length≤1000)∧Q (.tuple [.slice 2 0 (1) (1) true 3,.int .i64 (rq wA MW Bi)]) ⟨(St.new (St.new (St.new Go.Ev.start 0 (.cells 18 [] (ai (an.cells c) .leaf 0) true false)) 1 (.cells 3 [] (ai (af.cells (wq wA MW Bi)) .leaf 0) true false)) 2 (.cells 3 [] (ai (af.cells (wq wA MW Bi)) .leaf 0) true false)).heap,3⟩)) ((∃(MX:af) (SS:List UInt8),[.agg (af.cells (l.getD (aS jk jK).toNat default)),.str c.f5]=[af.enc MX,.str SS]∧MX.f2.length≤1000∧((.i64:IntKind)=.i64∧aa (decide ((aB MX SS)<((l.getD (aS jk jK).toNat default).f1))) (Q (.tuple [.ak,.int .i64 (10:Int)]) ⟨(St.new (St.new Go.Ev.start 0 (.cells 18 [] (ai (an.cells c) .leaf 0) true false)) 1 (.cells 3 [] (ai (af.cells (l.getD (aS jk jK).toNat default)) .leaf 0) true false)).heap,2⟩) ((∃(BT:List aj) (E3:Int),[ae aj.enc 7 ((l.getD (aS jk jK).toNat default).f2),.int .i64 (aB MX SS)]=[ae aj.enc 7 BT,.int .i64 E3]∧BT.length≤1000∧((br (fun i=>decide ((i:Int)≠E3)) (fun i=>BT.getD i default) BT.length=[]→Q (.tuple [.slice 2 0 (1) (1) true 3,.int .i64 (0:Int)]) ⟨(St.new (St.new (St.new Go.Ev.start 0 (.cells 18 [] (ai (an.cells c) .leaf 0) true false)) 1 (.cells 3 [] (ai [.str ((l.getD (aS jk jK).toNat default).f0),.int .i64 ((l.getD (aS jk jK).toNat default).f1),.ak] .leaf 0) true false)) 2 (.cells 3 [] (ai [.str ((l.getD (aS jk jK).toNat default).f0),.int .i64 ((l.getD (aS jk jK).toNat default).f1),.ak] .leaf 0) true false)).heap,3⟩)∧∀Gs abu,0<Gs→bu Gs abu (br (fun i=>decide ((i:Int)≠E3)) (fun i=>BT.getD i default) BT.length)→Q (.tuple [.slice 3 0 (1) (1) true 3,.int .i64 (0:Int)]) ⟨(St.new (St.new (St.new (St.new Go.Ev.start 0 (.cells 18 [] (ai (an.cells c) .leaf 0) true false)) 1 (.cells 3 [] (ai [.str ((l.getD (aS jk jK).toNat default).f0),.int .i64 ((l.getD (aS jk jK).toNat default).f1),.own 2 Gs 7] .leaf 0) true false)) 2 (.row Gs abu 7 false)) 3 (.cells 3 [] (ai [.str ((l.getD (aS jk jK).toNat default).f0),.int .i64 ((l.getD (aS jk jK).toNat default).f1),.own 2 Gs 7] .leaf 0) true false)).heap,4⟩)))))))))))))))))):=by kernel_rfl
def W75 [Env] (vs:List V) (σ:St) (k:ah):Prop:=
 ∃(l:List af) (c:an),vs=[ae af.enc 3 l,an.enc c]∧(gL c∧(1≤c.f0∧c.f0≤6)∧c.f7.length≤1000000∧l.length≤16∧(∀t∈l,e8 t∧bR t=0)∧(c.f0≠1→0≤aS l c.f1)∧(c.f0=6→0≤aS l c.f2))∧((kE c (aD l c.f1) (aD l c.f2)=0→k (.tuple [ae af.enc 3 (kT c (aD l c.f1)),.int .i64 0]) σ)∧(kE c (aD l c.f1) (aD l c.f2)≠0→∀q:List af,k (.tuple [ae af.enc 3 q,.int .i64 (kE c (aD l c.f1) (aD l c.f2))]) σ))
def xc [Env]:=kS 75 W75 Du
def z7:Nat→List Nat:=(fun i=>match i with | 0=>[0,3,7,8] | 1=>[0,7,9,11] | _=>[])
theorem e31 [Env] (A:Nat→List SV→Prop) (Q:V→St→Prop) (l:List af) (c:an):WE Tryz.prog 31 Tryz.f31 xc 0 z7 A Q [ae af.enc 3 l,an.enc c] Go.Ev.start=
  ((∃MY:List af,[ae af.enc 3 l]=[ae af.enc 3 MY]∧(∀t∈MY,ga t)∧((.i64:IntKind)=.i64∧aa (decide ((cG MY)≠(0:Int))) (Q (.tuple [.ak,.int .i64 (cG MY)]) ⟨(St.new Go.Ev.start 0 (.cells 18 [] (ai (an.cells c) .leaf 0) true false)).heap,1⟩) (((.i64:IntKind)=.i64∧aa (decide (c.f0<(1:Int))) (Q (.tuple [.ak,.int .i64 (1:Int)]) ⟨(St.new Go.Ev.start 0 (.cells 18 [] (ai (an.cells c) .leaf 0) true false)).heap,1⟩) (((.i64:IntKind)=.i64∧aa (decide (c.f0>(6:Int))) (Q (.tuple [.ak,.int .i64 (1:Int)]) ⟨(St.new Go.Ev.start 0 (.cells 18 [] (ai (an.cells c) .leaf 0) true false)).heap,1⟩) ((∃abv:an,[.agg (an.cells c)]=[an.enc abv]∧A 0 [.val (ae af.enc 3 l),.box (an.cells c),.val (ae V.str 1 ((bt abv))),.val (.int .i64 (0:Int))]))))))))):=by kernel_rfl
theorem ahX [Env] (A:Nat→List SV→Prop) (Q:V→St→Prop) (l:List af) (c:an) (s:List (List UInt8)) (i:Int):WL Tryz.prog 31 Tryz.f31 xc 0 z7 A Q 0 [.val (ae af.enc 3 l),.box (an.cells c),.val (ae V.str 1 s),.val (.int .i64 i)]=
  (((.i64:IntKind)=.i64∧aa (decide (i<(((s.length:Nat):Int)))) (((0≤i∧i<((s.length:Nat):Int))∧(∃(SU:List af) (abw:List UInt8),[ae af.enc 3 l,.str ((s.getD i.toNat default))]=[ae af.enc 3 SU,.str abw]∧SU.length≤1000000∧((.i64:IntKind)=.i64∧aa (decide ((aS SU abw)<(0:Int))) (Q (.tuple [.ak,.int .i64 (9:Int)]) ⟨(St.new Go.Ev.start 0 (.cells 18 [] (ai (an.cells c) .leaf 0) false false)).heap,1⟩) (A 0 [.val (ae af.enc 3 l),.box (an.cells c),.val (ae V.str 1 s),.val (.int .i64 (IntKind.i64.wrap (i+(1:Int))))]))))) ((∃(mY:List af) (hR:an),[ae af.enc 3 l,.agg (an.cells c)]=[ae af.enc 3 mY,an.enc hR]∧(gL hR∧(1≤hR.f0∧hR.f0≤6)∧hR.f7.length≤1000000∧mY.length≤16∧(∀t∈mY,e8 t∧bR t=0)∧(hR.f0≠1→0≤aS mY hR.f1)∧(hR.f0=6→0≤aS mY hR.f2))∧((kE hR (aD mY hR.f1) (aD mY hR.f2)=0→((.i64:IntKind)=.i64∧A 1 [.val (ae af.enc 3 l),.val (ae V.str 1 s),.val (ae af.enc 3 ((kT hR (aD mY hR.f1)))),.val (.int .i64 (0:Int))]))∧(kE hR (aD mY hR.f1) (aD mY hR.f2)≠0→∀ahY:List af,((.i64:IntKind)=.i64∧aa (decide (((kE hR (aD mY hR.f1) (aD mY hR.f2)))≠(0:Int))) (Q (.tuple [.ak,.int .i64 ((kE hR (aD mY hR.f1) (aD mY hR.f2)))]) ⟨(St.new Go.Ev.start 0 (.cells 18 [] (ai (an.cells c) .leaf 0) false false)).heap,1⟩) (A 1 [.val (ae af.enc 3 l),.val (ae V.str 1 s),.val (ae af.enc 3 ahY),.val (.int .i64 (0:Int))])))))))):=by kernel_rfl
theorem ahZ [Env] (A:Nat→List SV→Prop) (Q:V→St→Prop) (l o:List af) (s:List (List UInt8)) (i:Int):WL Tryz.prog 31 Tryz.f31 xc 0 z7 A Q 1 [.val (ae af.enc 3 l),.val (ae V.str 1 s),.val (ae af.enc 3 o),.val (.int .i64 i)]=
  (((.i64:IntKind)=.i64∧aa (decide (i<(((o.length:Nat):Int)))) (((0≤i∧i<((o.length:Nat):Int))∧(∃(SW:List af) (abx:List UInt8),[ae af.enc 3 l,.str ((o.getD i.toNat default).f0)]=[ae af.enc 3 SW,.str abx]∧SW.length≤1000000∧((.i64:IntKind)=.i64∧aa (decide ((aS SW abx)≥(0:Int))) (((0≤i∧i<((o.length:Nat):Int))∧(∃q:Nat→List UInt8,(fun i=>V.str (s.getD i default))=(fun i=>V.str (q i))∧s.length≤1000000∧((.i64:IntKind)=.i64∧aa (decide ((ct ((o.getD i.toNat default).f0) q s.length)<(0:Int))) (Q (.tuple [.ak,.int .i64 (12:Int)]) ⟨Go.Ev.start.heap,0⟩) (A 1 [.val (ae af.enc 3 l),.val (ae V.str 1 s),.val (ae af.enc 3 o),.val (.int .i64 (IntKind.i64.wrap (i+(1:Int))))]))))) (A 1 [.val (ae af.enc 3 l),.val (ae V.str 1 s),.val (ae af.enc 3 o),.val (.int .i64 (IntKind.i64.wrap (i+(1:Int))))]))))) (Q (.tuple [ae af.enc 3 o,.int .i64 (0:Int)]) ⟨Go.Ev.start.heap,0⟩))):=by kernel_rfl
def W31 [Env] (vs:List V) (σ:St) (k:ah):Prop:=
 ∃(l:List af) (c:an),vs=[ae af.enc 3 l,an.enc c]∧(gL c∧c.f7.length≤1000000∧∀t∈l,e8 t)∧k (.tuple [ae af.enc 3 (gq l c),.int .i64 (gf l c)]) σ
def UG [Env]:=kS 31 W31 xc
end Go.Proofs.YtbajncpfmemdgaaGreatDoor
end
section
namespace Go.Proofs.YtbajncpfmemdgaaGreatDoor
open Go Go.Ev Go.IntWalk
theorem F125:bl Tryz.prog 125 Tryz.f125:=.of (by kernel_rfl) (by kernel_rfl)
theorem F126:bl Tryz.prog 126 Tryz.f126:=.of (by kernel_rfl) (by kernel_rfl)
theorem F123:bl Tryz.prog 123 Tryz.f123:=.of (by kernel_rfl) (by kernel_rfl)
theorem F124:bl Tryz.prog 124 Tryz.f124:=.of (by kernel_rfl) (by kernel_rfl)
theorem F75:bl Tryz.prog 75 Tryz.f75:=.of (by kernel_rfl) (by kernel_rfl)
theorem F31:bl Tryz.prog 31 Tryz.f31:=.of (by kernel_rfl) (by kernel_rfl)
theorem CF {α:Type} [Inhabited α] {p:Nat→Bool} (hp:∀i,p i=true) (l:List α):∀n,n≤l.length→br p (fun i=>l.getD i default) n=l.take n
 | 0,_=>rfl
 | n+1,h=>by
  rw[BH (hp n),CF hp l n (by omega),List.take_add_one,List.getD_eq_getElem?_getD,List.getElem?_eq_getElem (by omega)];rfl
theorem kB {l:List aj}:br (fun i=>decide ((i:Int)≠ -1)) (fun i=>l.getD i default) l.length=l:=by
 rw[CF (fun i=>decide_eq_true (by omega)) l l.length (Nat.le_refl _),List.take_length]
theorem aby {v:az} {d:Int} (h:FB v d≠0):j3 v d=kz:=by
 unfold FB at h
 unfold j3
 by_cases h1:bp v≠0
 ·rw[if_pos h1]
 rw[if_neg h1] at h⊢
 by_cases h2:d<1∨d>5
 ·rw[if_pos h2]
 rw[if_neg h2] at h⊢
 by_cases h3:v.f0=0∨v.f0=d
 ·rw[if_pos h3] at h;exact(h rfl).elim
 rw[if_neg h3] at h⊢
 by_cases h4:jh v.f0 d=false
 ·rw[if_pos h4]
 rw[if_neg h4] at h⊢
 by_cases h5:v.f0=1
 ·rw[if_pos h5] at h;exact(h rfl).elim
 rw[if_neg h5] at h⊢
 by_cases h6:v.f0=2
 ·rw[if_pos h6] at h⊢;exact Bt h
 rw[if_neg h6] at h⊢
 by_cases h7:v.f0=3
 ·rw[if_pos h7] at h⊢;exact FJ h
 rw[if_neg h7] at h⊢
 by_cases h8:v.f0=4
 ·rw[if_pos h8] at h⊢;exact CC h
 rw[if_neg h8] at h⊢
 exact FK h
theorem bu.jb {n i:Nat} {f:Nat→V} {L:List aj} (h:bu n f L) (hi:i<n) (x:aj) {v:V} (hv:v=aj.enc x):bu n (e9 f i v) (L.set i x):=by
 subst hv
 obtain⟨rfl,h2⟩:=h
 refine⟨by simp,fun j hj=>?_⟩
 by_cases e:j=i
 ·subst e;rw[wY];simp [List.getD_eq_getElem?_getD,hi]
 ·rw[wZ _ _ e,h2 j hj]
  simp [List.getD_eq_getElem?_getD,List.getElem?_set_ne (Ne.symm e)]
section
variable [Env] [aZ] {vs:List V} {σ:St} {k:ah}
omit [aZ] in
theorem bd.kC {σ:St} {k:ah} {τ:St} {vs us:List V} (h:bH τ vs us) (hk:k (.tuple us) σ):bd σ k (.tuple vs) τ:=bd.fZ (.tuple h) hk
omit [aZ] in
theorem UH {τ:St} {t:af} {e:Int}:bH τ [.agg t.cells,.int .i64 e] [af.enc t,.int .i64 e]:=.cons (.clean t.aJ) (.cons (.int _ _) .nil)
omit [Env] [aZ] in
theorem SX {t:af} {c:aj} {e:Int} (h:k5 t c=e) (h0:e≠0):wo t c=t:=if_neg (by rw[h];exact h0)
omit [aZ] in
theorem lZ {t:af} {c:aj} (hk:k (.tuple [af.enc (wo t c),.int .i64 (k5 t c)]) σ) {e:Int} (h:k5 t c=e) (h0:e≠0) {τ:St}:bd σ k (.tuple [.agg t.cells,.int .i64 e]) τ:=by
 rw[SX h h0,h] at hk
 exact bd.kC UH hk
set_option maxRecDepth 100000 in
theorem W3 (h:abl vs σ k):ag Tryz.prog 125 vs k σ:=by
 obtain⟨t,c,rfl,⟨cE,hl,z8⟩,hk⟩:=h
 refine ag.aQ (av t.aJ (av c.aJ aM)) (F125.ck (live:=BM) (call:=zY) (fun h=>Gq h) (by kernel_rfl) ?_)
 have fin:∀ {τ:St} {b n:Nat} {f:Nat→V} {p:Bool},k5 t c=0→bu n f t.f2→τ.heap.get b=some (.row (n+1) (dL n f fun _=>.agg (aj.cells c)) 7 p)→bd σ k (.tuple [.agg [.str t.f0,.int .i64 t.f1,.own b (n+1) 7],.int .i64 0]) τ:=fun h0 hr hb=>by
  have e:wo t c=BA t c:=if_pos h0
  rw[e,h0] at hk
  exact bd.kC (fq hb (hr.push c)) hk
 obtain⟨g0,g1,g2,g3⟩:=c
 cases g2 with
 | true=>
  refine(ac3 _ _ t ⟨g0,g1,true,g3⟩).mpr ⟨⟨g0,g1,true,g3⟩,rfl,cE,rfl,aq (fun a1=>lZ hk (zZ a1) a1) fun a1=>⟨t,g0,rfl,z8,rfl,aq (fun a2=>lZ hk (z3 a1 a2) (by decide)) fun a2=>⟨rfl,aq (fun a3=>lZ hk (z4 a1 a2 (by omega)) (by decide)) fun a3=>?_⟩⟩⟩
  have h5:k5 t ⟨g0,g1,true,g3⟩=0:=(z5 a1 a2 (by omega) fun h=>by cases h.1).trans (Decidable.not_not.1 a1)
  refine⟨t.f2,-1,rfl,z8,fun h=>?_,fun n f hn hr=>?_⟩
  ·rw[kB] at h;rw[h] at hl;simp at hl
  ·rw[kB] at hr
   have:=hr.1
   exact⟨⟨rfl,by omega⟩,fin (p:=false) h5 hr (by rfl)⟩
 | false=>
  refine(ac4 _ _ t ⟨g0,g1,false,g3⟩).mpr ⟨⟨g0,g1,false,g3⟩,rfl,cE,rfl,aq (fun a1=>lZ hk (zZ a1) a1) fun a1=>⟨t,g0,rfl,z8,rfl,aq (fun a2=>lZ hk (z3 a1 a2) (by decide)) fun a2=>⟨rfl,aq (fun a3=>lZ hk (z4 a1 a2 (by omega)) (by decide)) fun a3=>⟨rfl,aq (fun a4=>lZ hk (Pe a1 a2 (by omega) ⟨rfl,a4⟩) (by decide)) fun a4=>?_⟩⟩⟩⟩
  have h5:k5 t ⟨g0,g1,false,g3⟩=0:=(z5 a1 a2 (by omega) fun h=>a4 h.2).trans (Decidable.not_not.1 a1)
  refine⟨t.f2,-1,rfl,z8,fun h=>?_,fun n f hn hr=>?_⟩
  ·rw[kB] at h;rw[h] at hl;simp at hl
  ·rw[kB] at hr
   have:=hr.1
   exact⟨⟨rfl,by omega⟩,fin (p:=false) h5 hr (by rfl)⟩
theorem Gt:∀ {f:FuncId} {vs:List V} {σ:St} {k:ah},Ds f vs σ k→ag Tryz.prog f vs k σ:=fun h=>aH W3 Gq h
omit [Env] [aZ] in
theorem lB {t:af} {s:List UInt8} {d:Int} (h:aB t s<t.f1):rq t s d=10:=if_pos h
omit [Env] [aZ] in
theorem mZ {t:af} {s:List UInt8} {d:Int} (h:¬aB t s<t.f1) (h2:jh (pd t s).f1 d=false):rq t s d=5:=(if_neg h).trans (if_neg (by rw[h2];decide))
omit [Env] [aZ] in
theorem lC {t:af} {s:List UInt8} {d:Int} (h:¬aB t s<t.f1) (h2:jh (pd t s).f1 d=true):rq t s d=0:=(if_neg h).trans (if_pos h2)
omit [aZ] in
theorem Gu {t:af} {s:List UInt8} {d:Int} (hk:k (.tuple [af.enc (wq t s d),.int .i64 (rq t s d)]) σ) {e:Int} (h:rq t s d=e) (h0:e≠0) {τ:St}:bd σ k (.tuple [.agg t.cells,.int .i64 e]) τ:=by
 have e':wq t s d=t:=if_neg (by rw[h];exact h0)
 rw[e',h] at hk
 exact bd.kC UH hk
theorem W4 (h:abo vs σ k):ag Tryz.prog 126 vs k σ:=by
 obtain⟨t,s,d,rfl,⟨ou,UI,hl,z8⟩,hk⟩:=h
 refine ag.aQ (av t.aJ (av (Go.Ev.Clean.str _) (av (Go.Ev.Clean.int _ _) aM))) (F126.ck (live:=Kv) (call:=Ds) (fun h=>Gt h) (by kernel_rfl) ?_)
 have hca:=qj t s
 rw[ahU]
 refine⟨t,s,rfl,z8,rfl,aq (fun a1=>Gu hk (lB a1) (by decide)) fun a1=>⟨⟨by omega,by omega⟩,aa.mk (fun a2=>Gu hk (mZ a1 (by rw[Bool.not_eq_true'] at a2;exact a2)) (by decide)) fun a2=>?_⟩⟩
 have abz:jh (pd t s).f1 d=true:=by rw[Bool.not_eq_false'] at a2;exact a2
 have rQ:zP (pd t s).f3:=ou _ (bn (by omega))
 have fin:∀ {τ:St} {b n:Nat} {f:Nat→V} {p:Bool} {v:V},bu n f t.f2→v=aj.enc (BB (pd t s) d)→τ.heap.get b=some (.row n (e9 f (aB t s).toNat v) 7 p)→bd σ k (.tuple [.agg [.str t.f0,.int .i64 t.f1,.own b n 7],.int .i64 0]) τ:=fun {τ b n f p v} hr hv hb=>by
  have e:wq t s d=wm t s d:=if_pos (lC a1 abz)
  rw[e,lC a1 abz] at hk
  exact bd.kC (fq hb (hr.jb (by have:=hr.1;omega) _ hv)) hk
 refine⟨rQ,rfl,aq (fun a3=>?_) fun a3=>?_⟩
 ·refine⟨t.f2,-1,rfl,z8,fun h=>?_,fun n f hn hr=>?_⟩
  ·rw[kB] at h;rw[h] at hl;simp at hl
  ·rw[kB] at hr
   have:=hr.1
   refine⟨⟨by omega,by omega⟩,by omega,fin (p:=false) hr ?_ (by rfl)⟩
   have:j3 (pd t s).f3 d=kz:=aby a3
   unfold BB
   rw[this];rfl
 ·refine⟨t.f2,-1,rfl,z8,fun h=>?_,fun n f hn hr=>?_⟩
  ·rw[kB] at h;rw[h] at hl;simp at hl
  ·rw[kB] at hr
   have:=hr.1
   exact⟨⟨by omega,by omega⟩,by omega,fin (p:=false) hr rfl (by rfl)⟩
theorem Gv:∀ {f:FuncId} {vs:List V} {σ:St} {k:ah},Dt f vs σ k→ag Tryz.prog f vs k σ:=fun h=>aH W4 Gt h
omit [aZ] in
theorem tT {τ:St} {b m:Nat} {ex:Bool} {t:af} (h:τ.cells b 0 (1*3)=some t.cells):ey τ (.slice b 0 1 m ex 3) (ae af.enc 3 [t]):=
 .kR (.slice (es:=[af.enc t]) h (g8 t.clean) (fun v hv=>by rw[List.mem_singleton.1 hv];rfl) rfl)
omit [aZ] in
theorem Gw {τ:St}:ey τ .ak (ae af.enc 3 []):=.kR (.empty _ _)
omit [aZ] in
theorem z9 {τ:St} {e:Int}:bH τ [.ak,.int .i64 e] [ae af.enc 3 [],.int .i64 e]:=.cons Gw (.cons (.int _ _) .nil)
omit [aZ] in
theorem tU {t u:af} {c:an} (hk:k (.tuple [ae af.enc 3 (FX t u c),.int .i64 (lW t u c)]) σ) {e:Int} (h:lW t u c=e) (h0:e≠0) {τ:St}:bd σ k (.tuple [.ak,.int .i64 e]) τ:=by
 have e':FX t u c=[]:=if_neg (by rw[h];exact h0)
 rw[e',h] at hk
 exact bd.kC z9 hk
omit [Env] [aZ] in
theorem dr (l:List af) (s:List UInt8): -1≤aS l s∧aS l s<l.length:=by
 rcases lx s (fun i=>(l.getD i default).f0) l.length with ⟨h,_⟩ | ⟨i,h,hi,_⟩
 ·have:aS l s= -1:=h
  omega
 ·have:aS l s=i:=h
  omega
set_option maxRecDepth 100000 in
theorem W5 (h:abq vs σ k):ag Tryz.prog 123 vs k σ:=by
 obtain⟨l,c,rfl,⟨hl,h1,h2,hc⟩,hk⟩:=h
 refine ag.aQ (av (cF l) (av c.aJ aM)) (F123.ck (live:=Kw) (call:=Dt) (fun h=>Gv h) (by kernel_rfl) ?_)
 have b1:=dr l c.f1
 have b2:=dr l c.f2
 obtain⟨t,ht⟩:∃t,t=aD l c.f1:=⟨_,rfl⟩
 obtain⟨u,hu⟩:∃u,u=aD l c.f2:=⟨_,rfl⟩
 rw[←ht,←hu] at hk
 rw[ahV]
 have e12:c.f1=c.f2→lW t u c=12:=fun h=>if_pos h
 have en:¬c.f1=c.f2→aK c.f3≠0→lW t u c=aK c.f3:=fun h1 h2=>(if_neg h1).trans (if_pos h2)
 have Pf:¬c.f1=c.f2→¬aK c.f3≠0→(t.f1≠u.f1∨t.f2≠u.f2)→lW t u c=11:=fun h1 h2 h3=>((if_neg h1).trans (if_neg h2)).trans (if_pos h3)
 have e0:¬c.f1=c.f2→¬aK c.f3≠0→¬(t.f1≠u.f1∨t.f2≠u.f2)→lW t u c=0:=fun h1 h2 h3=>((if_neg h1).trans (if_neg h2)).trans (if_neg h3)
 have jo:t.f2.length≤1000:=by rw[ht];exact hc _ (bn (by omega))
 refine aq (fun a1=>tU hk (e12 a1) (by decide)) fun a1=>⟨rfl,aq (fun a2=>tU hk (en a1 a2) a2) fun a2=>⟨l,c.f1,rfl,by omega,⟨h1,b1.2⟩,l,c.f2,rfl,by omega,⟨h2,b2.2⟩,rfl,?_⟩⟩
 have fj:l.getD (aS l c.f1).toNat default=t:=ht.symm
 have oJ:l.getD (aS l c.f2).toNat default=u:=hu.symm
 rw[fj,oJ]
 refine aq (fun a3=>tU hk (Pf a1 a2 (.inl a3)) (by decide)) fun a3=>⟨t.f2,u.f2,rfl,by omega,fun b hb=>aa.mk (fun a4=>?_) fun a4=>?_⟩
 ·exact tU hk (Pf a1 a2 (.inr fun e=>by rw[hb.2 e] at a4;cases a4)) (by decide)
 ·have hE:=e0 a1 a2 fun h=>by
   rcases h with h | h
   ·exact a3 h
   ·exact h (hb.1 (by rw[Bool.not_eq_false'] at a4;exact a4))
  have e':FX t u c=[FV t c]:=if_pos hE
  rw[e',hE] at hk
  exact bd.kC (.cons (tT (t:=FV t c) (by rfl)) (.cons (.int _ _) .nil)) hk
theorem Gx:∀ {f:FuncId} {vs:List V} {σ:St} {k:ah},tQ f vs σ k→ag Tryz.prog f vs k σ:=fun h=>aH W5 Gv h
abbrev tV (s:List UInt8) (q:Int) (n:Nat) (f:Nat→V):SV:=.nest .ptr [.val (.str s),.val (.int .i64 q),.row n f 7]
def BU (c:an) (t:af):Nat→List SV→Prop
 | 0,ss=>∃i:Nat,(i≤c.f7.length∧aK c.f3=0∧aK c.f4=0∧¬c.f3=c.f4)∧(∀j,j<i→jW t c j=0)∧ss=[.box t.cells,.box c.cells,.val (.int .i64 (i:Int))]
 | 1,ss=>k6 t c=0∧((ss=[.box t.cells,.box c.cells,.box [.str c.f3,.int .i64 t.f1,.ak],.box [.str c.f4,.int .i64 t.f1,.ak],.val (.int .i64 (0:Int))])∨
   ∃(i a b:Nat) (f g:Nat→V),0<i∧i≤t.f2.length∧bu a f (dD t c true i)∧bu b g (dD t c false i)∧ss=[.box t.cells,.box c.cells,tV c.f3 t.f1 a f,tV c.f4 t.f1 b g,.val (.int .i64 (i:Int))])
 | _,_=>False
def ah0 (c:an) (t:af):Nat→List SV→Nat
 | 0,ss=>2000+(c.f7.length-cb ss)
 | _,ss=>t.f2.length-cb ss
omit [aZ] in
theorem xM {s:List UInt8} {q:Int} {n:Nat} {f:Nat→V} {L:List aj} (h:bu n f L):(tV s q n f).clean:=by
 intro p hp
 have hp:p∈[SP.val (.str s),SP.val (.int .i64 q),SP.row n f 7]:=hp
 simp only[List.mem_cons,List.not_mem_nil,or_false] at hp
 rcases hp with rfl | rfl | rfl
 ·exact Go.Ev.Clean.str _
 ·exact Go.Ev.Clean.int _ _
 ·exact h.cl
omit [aZ] in
theorem BU.clean {c:an} {t:af}:∀k ss,BU c t k ss→∀s∈ss,s.clean
 | 0,_,⟨_,_,_,e⟩=>by subst e;exact aN (af.clean t) (aN (an.clean c) (aG bG))
 | 1,_,⟨_,.inl e⟩=>by
  subst e
  have nb:∀s:List UInt8,(SV.box [.str s,.int .i64 t.f1,.ak]).clean:=fun s=>aC (Go.Ev.Clean.str _) (aC (Go.Ev.Clean.int _ _) (aC Go.Ev.Clean.ak cJ))
  exact aN (af.clean t) (aN (an.clean c) (aN (nb _) (aN (nb _) (aG bG))))
 | 1,_,⟨_,.inr ⟨_,_,_,_,_,_,_,h1,h2,e⟩⟩=>by subst e;exact aN (af.clean t) (aN (an.clean c) (aN (xM h1) (aN (xM h2) (aG bG))))
 | n+2,_,h=>h.elim
omit [aZ] in
theorem ql {t:af} {c:an} (hk:k (.tuple [ae af.enc 3 (FW t c),.int .i64 (k6 t c)]) σ) {e:Int} (h:k6 t c=e) (h0:e≠0) {τ:St}:bd σ k (.tuple [.ak,.int .i64 e]) τ:=by
 have e':FW t c=[]:=if_neg (by rw[h];exact h0)
 rw[e',h] at hk
 exact bd.kC z9 hk
theorem W6 (h:abt vs σ k):ag Tryz.prog 124 vs k σ:=by
 obtain⟨t,c,rfl,⟨ic,UI,hl,z8⟩,hk⟩:=h
 have ah1:∀b,ik t c b 0=true:=fun b=>kA (by omega)
 refine ag.aQ (av t.aJ (av c.aJ aM)) (F124.jR (live:=sC) (call:=tQ) (fun h=>Gx h) 2 (by kernel_rfl) Nat.lt_wfRel.wf (ah0 c t) (BU c t) BU.clean ?_ ?_)
 ·rw[ahW]
  have h3:k6 t c=if aK c.f3≠0 then aK c.f3 else if aK c.f4≠0 then aK c.f4 else if c.f3=c.f4 then 12 else dC (jW t c) c.f7.length:=rfl
  exact⟨rfl,aq (fun a=>ql hk (by rw[h3,if_pos a]) a) fun a=>⟨rfl,aq (fun a2=>ql hk (by rw[h3,if_neg a,if_pos a2]) a2) fun a2=>aq (fun a3=>ql hk (by rw[h3,if_neg a,if_neg a2,if_pos a3]) (by decide)) fun a3=>
   ⟨0,⟨by omega,Decidable.not_not.1 a,Decidable.not_not.1 a2,a3⟩,fun j hj=>absurd hj (Nat.not_lt_zero j),rfl⟩⟩⟩
 ·intro j hj ss hI
  match j,hI with
  | 0,hI=>
   obtain⟨i,⟨hi,g1,g2,g3⟩,hb,rfl⟩:=hI
   rw[ac5]
   refine⟨rfl,aq (fun a1=>⟨⟨by omega,by omega⟩,t,_,rfl,by omega,cB (by simp [V.beq]) ⟨rfl,aq (fun a2=>ql hk ?_ (by decide)) fun a2=>⟨⟨by omega,by omega⟩,_,rfl,ic,rfl,aq (fun a3=>ql hk ?_ (by decide)) fun a3=>?_⟩⟩⟩) fun a1=>?_⟩
   ·rw[dJ] at a2
    exact tM g1 g2 g3 (i:=i) (by omega) (by unfold jW;rw[if_pos (.inl a2)];decide) hb
   ·rw[dJ] at a2 a3
    exact tM g1 g2 g3 (i:=i) (by omega) (by unfold jW;rw[if_pos (.inr a3)];decide) hb
   ·rw[dJ] at a2 a3
    rw[i64_in ((i:Int)+1) (by omega)]
    refine⟨⟨i+1,⟨by omega,g1,g2,g3⟩,fun j hj=>?_,rfl⟩,?_⟩
    ·by_cases e:j=i
     ·subst e;unfold jW;rw[if_neg]
      rintro(h | h)
      ·exact a2 h
      ·exact a3 h
     ·exact hb j (by omega)
    ·show 2000+(c.f7.length-((i:Int)+1).toNat)<2000+(c.f7.length-(i:Int).toNat)
     omega
   ·obtain rfl:i=c.f7.length:=by omega
    refine⟨⟨Ku g1 g2 g3 hb,.inl rfl⟩,?_⟩
    show t.f2.length-(0:Int).toNat<2000+_
    omega
  | 1,hI=>
   obtain⟨hE,rfl | ⟨i,a,b,f,g,h0,hi,wv,sc,rfl⟩⟩:=hI
   ·have s1:∀b,dD t c b 1=[gM t 0]:=fun b=>nF (ah1 b)
    have nx:BU c t 1 [.box t.cells,.box c.cells,tV c.f3 t.f1 1 (fun _=>.agg (aj.cells (gM t 0))),tV c.f4 t.f1 1 (fun _=>.agg (aj.cells (gM t 0))),.val (.int .i64 (IntKind.i64.wrap ((0:Int)+1)))]∧t.f2.length-(IntKind.i64.wrap ((0:Int)+1)).toNat<t.f2.length-(0:Int).toNat:=by
     rw[i64_in ((0:Int)+1) (by omega)]
     exact⟨⟨hE,.inr ⟨1,1,1,_,_,by omega,by omega,by rw[s1];exact bu.one _,by rw[s1];exact bu.one _,rfl⟩⟩,by omega⟩
    rw[ac6];unfold SM SN MT
    refine⟨rfl,aq (fun a1=>⟨⟨by omega,by omega⟩,_,rfl,ic,rfl,aq (fun _=>⟨rfl,aq (fun a2=>⟨⟨by omega,by omega⟩,rfl,aq (fun _=>⟨⟨by omega,by omega⟩,⟨rfl,rfl,rfl⟩,⟨rfl,rfl,rfl⟩,nx⟩) fun h=>absurd a2 h⟩) fun h=>absurd (show(0:Int)<t.f1 by omega) h⟩)
     fun _=>⟨rfl,aq (fun a2=>⟨⟨by omega,by omega⟩,rfl,aq (fun _=>⟨⟨by omega,by omega⟩,⟨rfl,rfl,rfl⟩,⟨rfl,rfl,rfl⟩,nx⟩) fun h=>absurd a2 h⟩) fun h=>absurd (show(0:Int)<t.f1 by omega) h⟩⟩) fun a1=>absurd (show(0:Int)<t.f2.length by omega) a1⟩
   ·have ha:a≤1000:=by have:=wv.1;have:=lY (ik t c true) (gM t) i;unfold dD at *;omega
    have hb:b≤1000:=by have:=sc.1;have:=lY (ik t c false) (gM t) i;unfold dD at *;omega
    rw[ac7];unfold SO SQ MU
    have nx:∀ {a' b':Nat} {f' g':Nat→V},bu a' f' (dD t c true (i+1))→bu b' g' (dD t c false (i+1))→i<t.f2.length→BU c t 1 [.box t.cells,.box c.cells,tV c.f3 t.f1 a' f',tV c.f4 t.f1 b' g',.val (.int .i64 (IntKind.i64.wrap ((i:Int)+1)))]∧t.f2.length-(IntKind.i64.wrap ((i:Int)+1)).toNat<t.f2.length-(i:Int).toNat:=fun h1 h2 h3=>by
     rw[i64_in ((i:Int)+1) (by omega)]
     exact⟨⟨hE,.inr ⟨i+1,_,_,_,_,by omega,by omega,h1,h2,rfl⟩⟩,by omega⟩
    have p1:ik t c true i=true→bu (a+1) (dL a f fun _=>.agg (aj.cells (gM t i))) (dD t c true (i+1)):=fun h=>by rw[nF h];exact wv.push _
    have p2:ik t c false i=true→bu (b+1) (dL b g fun _=>.agg (aj.cells (gM t i))) (dD t c false (i+1)):=fun h=>by rw[nF h];exact sc.push _
    have q1:¬ik t c true i=true→bu a f (dD t c true (i+1)):=fun h=>by rw[tN h];exact wv
    have q2:¬ik t c false i=true→bu b g (dD t c false (i+1)):=fun h=>by rw[tN h];exact sc
    refine⟨rfl,aq (fun a1=>⟨⟨by omega,by omega⟩,_,rfl,ic,rfl,aq (fun a3=>?_) fun a3=>?_⟩) fun a1=>?_⟩
    ·have hn:named t c i=true:=decide_eq_true a3
     refine⟨rfl,aq (fun a2=>⟨⟨by omega,by omega⟩,⟨rfl,by omega⟩,rfl,aq (fun _=>⟨⟨by omega,by omega⟩,⟨rfl,by omega⟩,⟨rfl,rfl⟩,⟨rfl,rfl⟩,nx (p1 (kA a2)) (p2 (kA a2)) (by omega)⟩) fun h=>absurd a2 h⟩) fun a2=>⟨⟨by omega,by omega⟩,⟨rfl,by omega⟩,rfl,aq (fun h=>absurd h a2) fun _=>⟨⟨rfl,rfl⟩,⟨rfl,rfl⟩,nx (p1 ?_) (q2 ?_) (by omega)⟩⟩⟩
     ·rw[ju a2,hn];rfl
     ·rw[ju a2,hn];decide
    ·have hn:named t c i=false:=decide_eq_false a3
     refine⟨rfl,aq (fun a2=>⟨⟨by omega,by omega⟩,⟨rfl,by omega⟩,rfl,aq (fun _=>⟨⟨by omega,by omega⟩,⟨rfl,by omega⟩,⟨rfl,rfl⟩,⟨rfl,rfl⟩,nx (p1 (kA a2)) (p2 (kA a2)) (by omega)⟩) fun h=>absurd a2 h⟩) fun a2=>⟨rfl,aq (fun h=>absurd h a2) fun _=>⟨⟨by omega,by omega⟩,⟨rfl,by omega⟩,⟨rfl,rfl⟩,⟨rfl,rfl⟩,nx (q1 ?_) (p2 ?_) (by omega)⟩⟩⟩
     ·rw[ju a2,hn];decide
     ·rw[ju a2,hn];rfl
    ·obtain rfl:i=t.f2.length:=by omega
     have e':FW t c=yn t c:=if_pos hE
     rw[e',hE] at hk
     obtain⟨rfl,k1⟩:=wv
     obtain⟨rfl,k2⟩:=sc
     refine bd.kC (us:=[ae af.enc 3 (yn t c),.int .i64 0]) (.cons (.kR (.slice (es:=[af.enc ⟨c.f3,t.f1,dD t c true t.f2.length⟩,af.enc ⟨c.f4,t.f1,dD t c false t.f2.length⟩]) (by rfl) (.cons (.str _) (.cons (.int _ _) (.cons (.own (g:=fun i=>aj.enc ((dD t c true t.f2.length).getD i default)) (p:=false) (by rfl) (fun i hi=>by rw[k1 i hi];exact g8 (aj.clean _)) fun i hi=>rfl)
      (.cons (.str _) (.cons (.int _ _) (.cons (.own (g:=fun i=>aj.enc ((dD t c false t.f2.length).getD i default)) (p:=false) (by rfl) (fun i hi=>by rw[k2 i hi];exact g8 (aj.clean _)) fun i hi=>rfl) .nil)))))) (fun v hv=>?_) rfl)) (.cons (.int _ _) .nil)) hk
     simp only[List.mem_cons,List.not_mem_nil,or_false] at hv
     rcases hv with rfl | rfl<;>rfl
  | n+2,hI=>exact hI.elim
theorem Gy:∀ {f:FuncId} {vs:List V} {σ:St} {k:ah},Du f vs σ k→ag Tryz.prog f vs k σ:=fun h=>aH W6 Gx h
end
end Go.Proofs.YtbajncpfmemdgaaGreatDoor
end
