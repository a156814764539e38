/- Proved: parts of the way: BEq21, BD4, BD5. -/
import Derived.Test.YtbajncpfmemdgaaGreatDoorEvQ22
set_option linter.unusedVariables false
set_option linter.unusedSimpArgs false
section
namespace Go.Proofs.YtbajncpfmemdgaaGreatDoor
open Go Go.Ev
def fP:Nat→List Nat:=(fun i=>match i with | 0=>[2,6,35,36,37] | 1=>[2,6,10,69,70,71] | 2=>[2,6,10,11,12,13,69,70,71,82,83] | _=>[])
theorem ahx [Env] (A:Nat→List SV→Prop) (Q:V→St→Prop) (c:an) (l:List ae):WE Tryz.prog 311 Tryz.f311 iE 0 fP A Q [an.enc c,af ae.enc 3 l] Go.Ev.start=
  (((0≤(0:Int)∧(0:Int)<((l.length:Nat):Int))∧aa (V.beq (.str c.f4) (.str c.f4)&&true) ((∃L2:List Int,bA ⟨(St.new (St.new (St.new Go.Ev.start 0 (.cells 18 [] (ah (an.cells c) .leaf 0) true false)) 1 (.cells 3 [] (ah (ae.cells (l.getD 0 default)) .leaf 0) true false)) 8 (.cells 2 [] (ah [.int .i64 (aF c.f3),.int .i64 (aF c.f4)] .leaf 0) true false)).heap,11⟩ [.slice 8 0 (2) (2) true 1] [af (V.int .i64) 1 L2]∧L2.length≤1000∧((.i64:IntKind)=.i64∧aa (decide ((TS L2)≠(0:Int))) (Q (.tuple [.aj,.int .i64 (TS L2)]) ⟨(St.new (St.new (St.new Go.Ev.start 0 (.cells 18 [] (ah (an.cells c) .leaf 0) true false)) 1 (.cells 3 [] (ah (ae.cells (l.getD 0 default)) .leaf 0) true false)) 8 (.cells 2 [] (ah [.int .i64 (aF c.f3),.int .i64 (aF c.f4)] .leaf 0) true false)).heap,11⟩) (aa (decide (c.f3=c.f4)) (Q (.tuple [.aj,.int .i64 (12:Int)]) ⟨(St.new (St.new (St.new Go.Ev.start 0 (.cells 18 [] (ah (an.cells c) .leaf 0) true false)) 1 (.cells 3 [] (ah (ae.cells (l.getD 0 default)) .leaf 0) true false)) 8 (.cells 2 [] (ah [.int .i64 (aF c.f3),.int .i64 (aF c.f4)] .leaf 0) true false)).heap,11⟩) (A 0 [.box (an.cells c),.box (ae.cells (l.getD 0 default)),.val (af V.str 1 c.f7),.val (.int .i64 (((c.f7.length:Nat):Int))),.val (.int .i64 (0:Int))]))))) False)):=by kernel_rfl
theorem acq [Env] (A:Nat→List SV→Prop) (Q:V→St→Prop) (c:an) (t:ae) (m i:Int):WL Tryz.prog 311 Tryz.f311 iE 0 fP A Q 0 [.box (an.cells c),.box (ae.cells t),.val (af V.str 1 c.f7),.val (.int .i64 m),.val (.int .i64 i)]=
  (((.i64:IntKind)=.i64∧aa (decide (i<m)) (((0≤i∧i<((c.f7.length:Nat):Int))∧(∃(RG:ae) (aal:List UInt8),[.agg (ae.cells t),.str ((c.f7.getD i.toNat default))]=[ae.enc RG,.str aal]∧RG.f2.length≤1000∧aa (V.beq (.int .i64 t.f1) (.int .i64 t.f1)&&true) (((.i64:IntKind)=.i64∧aa (decide ((az RG aal)<t.f1)) (Q (.tuple [.aj,.int .i64 (10:Int)]) ⟨(St.new (St.new Go.Ev.start 0 (.cells 18 [] (ah (an.cells c) .leaf 0) false false)) 1 (.cells 3 [] (ah (ae.cells t) .leaf 0) false false)).heap,16⟩) ((∃aam:Nat→List UInt8,(fun i=>V.str (c.f7.getD i default))=(fun i=>V.str (aam i))∧c.f7.length≤1000000∧((.i64:IntKind)=.i64∧aa (decide ((bT ((c.f7.getD i.toNat default)) aam c.f7.length)≠i)) (Q (.tuple [.aj,.int .i64 (10:Int)]) ⟨(St.new (St.new Go.Ev.start 0 (.cells 18 [] (ah (an.cells c) .leaf 0) false false)) 1 (.cells 3 [] (ah (ae.cells t) .leaf 0) false false)).heap,16⟩) (A 0 [.box (an.cells c),.box (ae.cells t),.val (af V.str 1 c.f7),.val (.int .i64 m),.val (.int .i64 (IntKind.i64.wrap (i+(1:Int))))])))))) False))) (A 1 [.box (an.cells c),.box (ae.cells t),.nest (.sl (2) (2) 3 true) [.val (.str c.f3),.val (.int .i64 t.f1),.val (.aj),.val (.str c.f4),.val (.int .i64 t.f1),.val (.aj)],.val (af ak.enc 7 t.f2),.val (.int .i64 (((t.f2.length:Nat):Int))),.val (.int .i64 (0:Int))]))):=by kernel_rfl
theorem acr [Env] (A:Nat→List SV→Prop) (Q:V→St→Prop) (c:an) (t:ae) (m i:Int):WL Tryz.prog 311 Tryz.f311 iE 0 fP A Q 1 [.box (an.cells c),.box (ae.cells t),.nest (.sl (2) (2) 3 true) [.val (.str c.f3),.val (.int .i64 t.f1),.val (.aj),.val (.str c.f4),.val (.int .i64 t.f1),.val (.aj)],.val (af ak.enc 7 t.f2),.val (.int .i64 m),.val (.int .i64 i)]=
  (((.i64:IntKind)=.i64∧aa (decide (i<m)) (((0≤i∧i<((t.f2.length:Nat):Int))∧(∃aan:Nat→List UInt8,(fun i=>V.str (c.f7.getD i default))=(fun i=>V.str (aan i))∧c.f7.length≤1000000∧A 2 [.box (an.cells c),.box (ae.cells t),.nest (.sl (2) (2) 3 true) [.val (.str c.f3),.val (.int .i64 t.f1),.val (.aj),.val (.str c.f4),.val (.int .i64 t.f1),.val (.aj)],.val (.int .i64 i),.box (ak.cells (t.f2.getD i.toNat default)),.val (.bool (decide (0≤bT ((t.f2.getD i.toNat default).f0) aan c.f7.length))),.val (af ak.enc 7 t.f2),.val (.int .i64 m),.val (.int .i64 i),.val (.int .i64 (2:Int)),.val (.int .i64 (0:Int))]))) (Q (.tuple [.slice 2 0 (2) (2) true 3,.int .i64 (0:Int)]) ⟨(St.new (St.new (St.new Go.Ev.start 0 (.cells 18 [] (ah (an.cells c) .leaf 0) false false)) 1 (.cells 3 [] (ah (ae.cells t) .leaf 0) false false)) 2 (.cells 6 [] (ah [.str c.f3,.int .i64 t.f1,.aj,.str c.f4,.int .i64 t.f1,.aj] .leaf 0) false false)).heap,3⟩))):=by kernel_rfl
theorem acs [Env] (A:Nat→List SV→Prop) (Q:V→St→Prop) (c:an) (t:ae) (m i:Int) (a b:Nat) (f g:Nat→V):WL Tryz.prog 311 Tryz.f311 iE 0 fP A Q 1 [.box (an.cells c),.box (ae.cells t),.nest (.sl (2) (2) 3 true) [.val (.str c.f3),.val (.int .i64 t.f1),.row a f 7,.val (.str c.f4),.val (.int .i64 t.f1),.row b g 7],.val (af ak.enc 7 t.f2),.val (.int .i64 m),.val (.int .i64 i)]=
  (((.i64:IntKind)=.i64∧aa (decide (i<m)) (((0≤i∧i<((t.f2.length:Nat):Int))∧(∃aao:Nat→List UInt8,(fun i=>V.str (c.f7.getD i default))=(fun i=>V.str (aao i))∧c.f7.length≤1000000∧((a=a∧7=7)∧((b=b∧7=7)∧A 2 [.box (an.cells c),.box (ae.cells t),.nest (.sl (2) (2) 3 true) [.val (.str c.f3),.val (.int .i64 t.f1),.row a f 7,.val (.str c.f4),.val (.int .i64 t.f1),.row b g 7],.val (.int .i64 i),.box (ak.cells (t.f2.getD i.toNat default)),.val (.bool (decide (0≤bT ((t.f2.getD i.toNat default).f0) aao c.f7.length))),.val (af ak.enc 7 t.f2),.val (.int .i64 m),.val (.int .i64 i),.val (.int .i64 (2:Int)),.val (.int .i64 (0:Int))]))))) (Q (.tuple [.slice 2 0 (2) (2) true 3,.int .i64 (0:Int)]) ⟨(St.new (St.new (St.new (St.new (St.new Go.Ev.start 0 (.cells 18 [] (ah (an.cells c) .leaf 0) false false)) 1 (.cells 3 [] (ah (ae.cells t) .leaf 0) false false)) 2 (.cells 6 [] (ah [.str c.f3,.int .i64 t.f1,.own 3 a 7,.str c.f4,.int .i64 t.f1,.own 4 b 7] .leaf 0) false false)) 3 (.row a f 7 false)) 4 (.row b g 7 false)).heap,5⟩))):=by kernel_rfl
abbrev RH [Env] (A:Nat→List SV→Prop) (Q:V→St→Prop) (c:an) (t:ae) (x:ak) (u m i:Int):Prop:=
 (((1:Nat)=1∧(1:Nat)=1∧1*7=1*7)∧A 2 [.box (an.cells c),.box (ae.cells t),.nest (.sl (2) (2) 3 true) [.val (.str c.f3),.val (.int .i64 t.f1),.row 1 (fun _=>.agg (ak.cells x)) 7,.val (.str c.f4),.val (.int .i64 t.f1),.val (.aj)],.val (.int .i64 u),.box (ak.cells x),.val (.bool false),.val (af ak.enc 7 t.f2),.val (.int .i64 m),.val (.int .i64 i),.val (.int .i64 (2:Int)),.val (.int .i64 (1:Int))])
abbrev RI [Env] (A:Nat→List SV→Prop) (Q:V→St→Prop) (c:an) (t:ae) (x:ak) (u m i:Int):Prop:=
 (((1:Nat)=1∧(1:Nat)=1∧1*7=1*7)∧A 2 [.box (an.cells c),.box (ae.cells t),.nest (.sl (2) (2) 3 true) [.val (.str c.f3),.val (.int .i64 t.f1),.row 1 (fun _=>.agg (ak.cells x)) 7,.val (.str c.f4),.val (.int .i64 t.f1),.val (.aj)],.val (.int .i64 u),.box (ak.cells x),.val (.bool true),.val (af ak.enc 7 t.f2),.val (.int .i64 m),.val (.int .i64 i),.val (.int .i64 (2:Int)),.val (.int .i64 (1:Int))])
theorem VW [Env] (A:Nat→List SV→Prop) (Q:V→St→Prop) (c:an) (t:ae) (x:ak) (u m i:Int):WL Tryz.prog 311 Tryz.f311 iE 0 fP A Q 2 [.box (an.cells c),.box (ae.cells t),.nest (.sl (2) (2) 3 true) [.val (.str c.f3),.val (.int .i64 t.f1),.val (.aj),.val (.str c.f4),.val (.int .i64 t.f1),.val (.aj)],.val (.int .i64 u),.box (ak.cells x),.val (.bool true),.val (af ak.enc 7 t.f2),.val (.int .i64 m),.val (.int .i64 i),.val (.int .i64 (2:Int)),.val (.int .i64 (0:Int))]=
  (((.i64:IntKind)=.i64∧((.i64:IntKind)=.i64∧aa (decide (u<t.f1)) ((RI A Q c t x u m i)) (((.i64:IntKind)=.i64∧aa ((true==true)) ((RI A Q c t x u m i)) (A 2 [.box (an.cells c),.box (ae.cells t),.nest (.sl (2) (2) 3 true) [.val (.str c.f3),.val (.int .i64 t.f1),.val (.aj),.val (.str c.f4),.val (.int .i64 t.f1),.val (.aj)],.val (.int .i64 u),.box (ak.cells x),.val (.bool true),.val (af ak.enc 7 t.f2),.val (.int .i64 m),.val (.int .i64 i),.val (.int .i64 (2:Int)),.val (.int .i64 (1:Int))])))))):=by kernel_rfl
theorem VX [Env] (A:Nat→List SV→Prop) (Q:V→St→Prop) (c:an) (t:ae) (x:ak) (u m i:Int):WL Tryz.prog 311 Tryz.f311 iE 0 fP A Q 2 [.box (an.cells c),.box (ae.cells t),.nest (.sl (2) (2) 3 true) [.val (.str c.f3),.val (.int .i64 t.f1),.val (.aj),.val (.str c.f4),.val (.int .i64 t.f1),.val (.aj)],.val (.int .i64 u),.box (ak.cells x),.val (.bool false),.val (af ak.enc 7 t.f2),.val (.int .i64 m),.val (.int .i64 i),.val (.int .i64 (2:Int)),.val (.int .i64 (0:Int))]=
  (((.i64:IntKind)=.i64∧((.i64:IntKind)=.i64∧aa (decide (u<t.f1)) ((RH A Q c t x u m i)) (((.i64:IntKind)=.i64∧aa ((false==true)) ((RH A Q c t x u m i)) (A 2 [.box (an.cells c),.box (ae.cells t),.nest (.sl (2) (2) 3 true) [.val (.str c.f3),.val (.int .i64 t.f1),.val (.aj),.val (.str c.f4),.val (.int .i64 t.f1),.val (.aj)],.val (.int .i64 u),.box (ak.cells x),.val (.bool false),.val (af ak.enc 7 t.f2),.val (.int .i64 m),.val (.int .i64 i),.val (.int .i64 (2:Int)),.val (.int .i64 (1:Int))])))))):=by kernel_rfl
abbrev RJ [Env] (A:Nat→List SV→Prop) (Q:V→St→Prop) (c:an) (t:ae) (x:ak) (u m i:Int) (a:Nat) (f:Nat→V):Prop:=
 ((a=a∧7=7)∧(((1:Nat)=1∧(1:Nat)=1∧1*7=1*7)∧A 2 [.box (an.cells c),.box (ae.cells t),.nest (.sl (2) (2) 3 true) [.val (.str c.f3),.val (.int .i64 t.f1),.row a f 7,.val (.str c.f4),.val (.int .i64 t.f1),.row 1 (fun _=>.agg (ak.cells x)) 7],.val (.int .i64 u),.box (ak.cells x),.val (.bool false),.val (af ak.enc 7 t.f2),.val (.int .i64 m),.val (.int .i64 i),.val (.int .i64 (2:Int)),.val (.int .i64 (2:Int))]))
abbrev RK [Env] (A:Nat→List SV→Prop) (Q:V→St→Prop) (c:an) (t:ae) (x:ak) (u m i:Int) (a:Nat) (f:Nat→V):Prop:=
 ((a=a∧7=7)∧(((1:Nat)=1∧(1:Nat)=1∧1*7=1*7)∧A 2 [.box (an.cells c),.box (ae.cells t),.nest (.sl (2) (2) 3 true) [.val (.str c.f3),.val (.int .i64 t.f1),.row a f 7,.val (.str c.f4),.val (.int .i64 t.f1),.row 1 (fun _=>.agg (ak.cells x)) 7],.val (.int .i64 u),.box (ak.cells x),.val (.bool true),.val (af ak.enc 7 t.f2),.val (.int .i64 m),.val (.int .i64 i),.val (.int .i64 (2:Int)),.val (.int .i64 (2:Int))]))
theorem VY [Env] (A:Nat→List SV→Prop) (Q:V→St→Prop) (c:an) (t:ae) (x:ak) (u m i:Int) (a:Nat) (f:Nat→V):WL Tryz.prog 311 Tryz.f311 iE 0 fP A Q 2 [.box (an.cells c),.box (ae.cells t),.nest (.sl (2) (2) 3 true) [.val (.str c.f3),.val (.int .i64 t.f1),.row a f 7,.val (.str c.f4),.val (.int .i64 t.f1),.val (.aj)],.val (.int .i64 u),.box (ak.cells x),.val (.bool true),.val (af ak.enc 7 t.f2),.val (.int .i64 m),.val (.int .i64 i),.val (.int .i64 (2:Int)),.val (.int .i64 (1:Int))]=
  (((.i64:IntKind)=.i64∧((.i64:IntKind)=.i64∧aa (decide (u<t.f1)) ((RK A Q c t x u m i a f)) (((.i64:IntKind)=.i64∧aa ((true==false)) ((RK A Q c t x u m i a f)) (((a=a∧7=7)∧A 2 [.box (an.cells c),.box (ae.cells t),.nest (.sl (2) (2) 3 true) [.val (.str c.f3),.val (.int .i64 t.f1),.row a f 7,.val (.str c.f4),.val (.int .i64 t.f1),.val (.aj)],.val (.int .i64 u),.box (ak.cells x),.val (.bool true),.val (af ak.enc 7 t.f2),.val (.int .i64 m),.val (.int .i64 i),.val (.int .i64 (2:Int)),.val (.int .i64 (2:Int))]))))))):=by kernel_rfl
theorem VZ [Env] (A:Nat→List SV→Prop) (Q:V→St→Prop) (c:an) (t:ae) (x:ak) (u m i:Int) (a:Nat) (f:Nat→V):WL Tryz.prog 311 Tryz.f311 iE 0 fP A Q 2 [.box (an.cells c),.box (ae.cells t),.nest (.sl (2) (2) 3 true) [.val (.str c.f3),.val (.int .i64 t.f1),.row a f 7,.val (.str c.f4),.val (.int .i64 t.f1),.val (.aj)],.val (.int .i64 u),.box (ak.cells x),.val (.bool false),.val (af ak.enc 7 t.f2),.val (.int .i64 m),.val (.int .i64 i),.val (.int .i64 (2:Int)),.val (.int .i64 (1:Int))]=
  (((.i64:IntKind)=.i64∧((.i64:IntKind)=.i64∧aa (decide (u<t.f1)) ((RJ A Q c t x u m i a f)) (((.i64:IntKind)=.i64∧aa ((false==false)) ((RJ A Q c t x u m i a f)) (((a=a∧7=7)∧A 2 [.box (an.cells c),.box (ae.cells t),.nest (.sl (2) (2) 3 true) [.val (.str c.f3),.val (.int .i64 t.f1),.row a f 7,.val (.str c.f4),.val (.int .i64 t.f1),.val (.aj)],.val (.int .i64 u),.box (ak.cells x),.val (.bool false),.val (af ak.enc 7 t.f2),.val (.int .i64 m),.val (.int .i64 i),.val (.int .i64 (2:Int)),.val (.int .i64 (2:Int))]))))))):=by kernel_rfl
abbrev RL [Env] (A:Nat→List SV→Prop) (Q:V→St→Prop) (c:an) (t:ae) (x:ak) (u m i:Int) (a b:Nat) (f g:Nat→V):Prop:=
 ((a=a∧(a+1)*72≤1099511627776)∧(((a+1)=(a+1)∧7=7)∧((b=b∧7=7)∧A 2 [.box (an.cells c),.box (ae.cells t),.nest (.sl (2) (2) 3 true) [.val (.str c.f3),.val (.int .i64 t.f1),.row (a+1) (cw a f (fun _=>.agg (ak.cells x))) 7,.val (.str c.f4),.val (.int .i64 t.f1),.row b g 7],.val (.int .i64 u),.box (ak.cells x),.val (.bool false),.val (af ak.enc 7 t.f2),.val (.int .i64 m),.val (.int .i64 i),.val (.int .i64 (2:Int)),.val (.int .i64 (1:Int))])))
abbrev RM [Env] (A:Nat→List SV→Prop) (Q:V→St→Prop) (c:an) (t:ae) (x:ak) (u m i:Int) (a b:Nat) (f g:Nat→V):Prop:=
 ((b=b∧(b+1)*72≤1099511627776)∧((a=a∧7=7)∧(((b+1)=(b+1)∧7=7)∧A 2 [.box (an.cells c),.box (ae.cells t),.nest (.sl (2) (2) 3 true) [.val (.str c.f3),.val (.int .i64 t.f1),.row a f 7,.val (.str c.f4),.val (.int .i64 t.f1),.row (b+1) (cw b g (fun _=>.agg (ak.cells x))) 7],.val (.int .i64 u),.box (ak.cells x),.val (.bool false),.val (af ak.enc 7 t.f2),.val (.int .i64 m),.val (.int .i64 i),.val (.int .i64 (2:Int)),.val (.int .i64 (2:Int))])))
abbrev RN [Env] (A:Nat→List SV→Prop) (Q:V→St→Prop) (c:an) (t:ae) (x:ak) (u m i:Int) (a b:Nat) (f g:Nat→V):Prop:=
 ((a=a∧(a+1)*72≤1099511627776)∧(((a+1)=(a+1)∧7=7)∧((b=b∧7=7)∧A 2 [.box (an.cells c),.box (ae.cells t),.nest (.sl (2) (2) 3 true) [.val (.str c.f3),.val (.int .i64 t.f1),.row (a+1) (cw a f (fun _=>.agg (ak.cells x))) 7,.val (.str c.f4),.val (.int .i64 t.f1),.row b g 7],.val (.int .i64 u),.box (ak.cells x),.val (.bool true),.val (af ak.enc 7 t.f2),.val (.int .i64 m),.val (.int .i64 i),.val (.int .i64 (2:Int)),.val (.int .i64 (1:Int))])))
abbrev RO [Env] (A:Nat→List SV→Prop) (Q:V→St→Prop) (c:an) (t:ae) (x:ak) (u m i:Int) (a b:Nat) (f g:Nat→V):Prop:=
 ((b=b∧(b+1)*72≤1099511627776)∧((a=a∧7=7)∧(((b+1)=(b+1)∧7=7)∧A 2 [.box (an.cells c),.box (ae.cells t),.nest (.sl (2) (2) 3 true) [.val (.str c.f3),.val (.int .i64 t.f1),.row a f 7,.val (.str c.f4),.val (.int .i64 t.f1),.row (b+1) (cw b g (fun _=>.agg (ak.cells x))) 7],.val (.int .i64 u),.box (ak.cells x),.val (.bool true),.val (af ak.enc 7 t.f2),.val (.int .i64 m),.val (.int .i64 i),.val (.int .i64 (2:Int)),.val (.int .i64 (2:Int))])))
abbrev L3 [Env] (A:Nat→List SV→Prop) (Q:V→St→Prop) (c:an) (t:ae) (x:ak) (u m i:Int) (a b:Nat) (f g:Nat→V) (p0:Int):Prop:=
 ((a=a∧7=7)∧((b=b∧7=7)∧A 2 [.box (an.cells c),.box (ae.cells t),.nest (.sl (2) (2) 3 true) [.val (.str c.f3),.val (.int .i64 t.f1),.row a f 7,.val (.str c.f4),.val (.int .i64 t.f1),.row b g 7],.val (.int .i64 u),.box (ak.cells x),.val (.bool false),.val (af ak.enc 7 t.f2),.val (.int .i64 m),.val (.int .i64 i),.val (.int .i64 (2:Int)),.val (.int .i64 (p0:Int))]))
abbrev L4 [Env] (A:Nat→List SV→Prop) (Q:V→St→Prop) (c:an) (t:ae) (x:ak) (u m i:Int) (a b:Nat) (f g:Nat→V) (p0:Int):Prop:=
 ((a=a∧7=7)∧((b=b∧7=7)∧A 2 [.box (an.cells c),.box (ae.cells t),.nest (.sl (2) (2) 3 true) [.val (.str c.f3),.val (.int .i64 t.f1),.row a f 7,.val (.str c.f4),.val (.int .i64 t.f1),.row b g 7],.val (.int .i64 u),.box (ak.cells x),.val (.bool true),.val (af ak.enc 7 t.f2),.val (.int .i64 m),.val (.int .i64 i),.val (.int .i64 (2:Int)),.val (.int .i64 (p0:Int))]))
abbrev L5 [Env] (A:Nat→List SV→Prop) (Q:V→St→Prop) (c:an) (t:ae) (x:ak) (u m i:Int) (a b:Nat) (f g:Nat→V):Prop:=
 ((.i64:IntKind)=.i64∧((a=a∧7=7)∧((b=b∧7=7)∧A 1 [.box (an.cells c),.box (ae.cells t),.nest (.sl (2) (2) 3 true) [.val (.str c.f3),.val (.int .i64 t.f1),.row a f 7,.val (.str c.f4),.val (.int .i64 t.f1),.row b g 7],.val (af ak.enc 7 t.f2),.val (.int .i64 m),.val (.int .i64 (IntKind.i64.wrap (i+(1:Int))))])))
theorem V0 [Env] (A:Nat→List SV→Prop) (Q:V→St→Prop) (c:an) (t:ae) (x:ak) (u m i:Int) (a b:Nat) (f g:Nat→V):WL Tryz.prog 311 Tryz.f311 iE 0 fP A Q 2 [.box (an.cells c),.box (ae.cells t),.nest (.sl (2) (2) 3 true) [.val (.str c.f3),.val (.int .i64 t.f1),.row a f 7,.val (.str c.f4),.val (.int .i64 t.f1),.row b g 7],.val (.int .i64 u),.box (ak.cells x),.val (.bool true),.val (af ak.enc 7 t.f2),.val (.int .i64 m),.val (.int .i64 i),.val (.int .i64 (2:Int)),.val (.int .i64 (0:Int))]=
  (((.i64:IntKind)=.i64∧((.i64:IntKind)=.i64∧aa (decide (u<t.f1)) ((RN A Q c t x u m i a b f g)) (((.i64:IntKind)=.i64∧aa ((true==true)) ((RN A Q c t x u m i a b f g)) ((L4 A Q c t x u m i a b f g 1))))))):=by kernel_rfl
theorem V1 [Env] (A:Nat→List SV→Prop) (Q:V→St→Prop) (c:an) (t:ae) (x:ak) (u m i:Int) (a b:Nat) (f g:Nat→V):WL Tryz.prog 311 Tryz.f311 iE 0 fP A Q 2 [.box (an.cells c),.box (ae.cells t),.nest (.sl (2) (2) 3 true) [.val (.str c.f3),.val (.int .i64 t.f1),.row a f 7,.val (.str c.f4),.val (.int .i64 t.f1),.row b g 7],.val (.int .i64 u),.box (ak.cells x),.val (.bool false),.val (af ak.enc 7 t.f2),.val (.int .i64 m),.val (.int .i64 i),.val (.int .i64 (2:Int)),.val (.int .i64 (0:Int))]=
  (((.i64:IntKind)=.i64∧((.i64:IntKind)=.i64∧aa (decide (u<t.f1)) ((RL A Q c t x u m i a b f g)) (((.i64:IntKind)=.i64∧aa ((false==true)) ((RL A Q c t x u m i a b f g)) ((L3 A Q c t x u m i a b f g 1))))))):=by kernel_rfl
theorem V2 [Env] (A:Nat→List SV→Prop) (Q:V→St→Prop) (c:an) (t:ae) (x:ak) (u m i:Int) (a b:Nat) (f g:Nat→V):WL Tryz.prog 311 Tryz.f311 iE 0 fP A Q 2 [.box (an.cells c),.box (ae.cells t),.nest (.sl (2) (2) 3 true) [.val (.str c.f3),.val (.int .i64 t.f1),.row a f 7,.val (.str c.f4),.val (.int .i64 t.f1),.row b g 7],.val (.int .i64 u),.box (ak.cells x),.val (.bool true),.val (af ak.enc 7 t.f2),.val (.int .i64 m),.val (.int .i64 i),.val (.int .i64 (2:Int)),.val (.int .i64 (1:Int))]=
  (((.i64:IntKind)=.i64∧((.i64:IntKind)=.i64∧aa (decide (u<t.f1)) ((RO A Q c t x u m i a b f g)) (((.i64:IntKind)=.i64∧aa ((true==false)) ((RO A Q c t x u m i a b f g)) ((L4 A Q c t x u m i a b f g 2))))))):=by kernel_rfl
theorem V3 [Env] (A:Nat→List SV→Prop) (Q:V→St→Prop) (c:an) (t:ae) (x:ak) (u m i:Int) (a b:Nat) (f g:Nat→V):WL Tryz.prog 311 Tryz.f311 iE 0 fP A Q 2 [.box (an.cells c),.box (ae.cells t),.nest (.sl (2) (2) 3 true) [.val (.str c.f3),.val (.int .i64 t.f1),.row a f 7,.val (.str c.f4),.val (.int .i64 t.f1),.row b g 7],.val (.int .i64 u),.box (ak.cells x),.val (.bool false),.val (af ak.enc 7 t.f2),.val (.int .i64 m),.val (.int .i64 i),.val (.int .i64 (2:Int)),.val (.int .i64 (1:Int))]=
  (((.i64:IntKind)=.i64∧((.i64:IntKind)=.i64∧aa (decide (u<t.f1)) ((RM A Q c t x u m i a b f g)) (((.i64:IntKind)=.i64∧aa ((false==false)) ((RM A Q c t x u m i a b f g)) ((L3 A Q c t x u m i a b f g 2))))))):=by kernel_rfl
theorem V4 [Env] (A:Nat→List SV→Prop) (Q:V→St→Prop) (c:an) (t:ae) (x:ak) (u m i:Int) (a b:Nat) (f g:Nat→V):WL Tryz.prog 311 Tryz.f311 iE 0 fP A Q 2 [.box (an.cells c),.box (ae.cells t),.nest (.sl (2) (2) 3 true) [.val (.str c.f3),.val (.int .i64 t.f1),.row a f 7,.val (.str c.f4),.val (.int .i64 t.f1),.row b g 7],.val (.int .i64 u),.box (ak.cells x),.val (.bool true),.val (af ak.enc 7 t.f2),.val (.int .i64 m),.val (.int .i64 i),.val (.int .i64 (2:Int)),.val (.int .i64 (2:Int))]=
  ((L5 A Q c t x u m i a b f g)):=by kernel_rfl
theorem V5 [Env] (A:Nat→List SV→Prop) (Q:V→St→Prop) (c:an) (t:ae) (x:ak) (u m i:Int) (a b:Nat) (f g:Nat→V):WL Tryz.prog 311 Tryz.f311 iE 0 fP A Q 2 [.box (an.cells c),.box (ae.cells t),.nest (.sl (2) (2) 3 true) [.val (.str c.f3),.val (.int .i64 t.f1),.row a f 7,.val (.str c.f4),.val (.int .i64 t.f1),.row b g 7],.val (.int .i64 u),.box (ak.cells x),.val (.bool false),.val (af ak.enc 7 t.f2),.val (.int .i64 m),.val (.int .i64 i),.val (.int .i64 (2:Int)),.val (.int .i64 (2:Int))]=
  ((L5 A Q c t x u m i a b f g)):=by kernel_rfl
def aap [Env] (vs:List V) (σ:St) (k:ai):Prop:=
 ∃(c:an) (l:List ae),bA σ vs [an.enc c,af ae.enc 3 l]∧(fx c∧c.f0=5∧c.f7.length≤1000000∧1≤l.length∧l.length≤16∧∀t∈l,dV t∧bK t=0)∧(kE c (l.getD 0 default) (l.getD 1 default)=0→k (.tuple [.own σ.next (kT c (l.getD 0 default)).length 3,.int .i64 0]) ((void σ.next).new σ.next (.row (kT c (l.getD 0 default)).length (fun i=>ae.enc ((kT c (l.getD 0 default)).getD i default)) 3 false)))∧(kE c (l.getD 0 default) (l.getD 1 default)≠0→k (.tuple [.aj,.int .i64 (kE c (l.getD 0 default) (l.getD 1 default))]) (void σ.next))
def zu [Env]:=kS 311 aap iE
end Go.Proofs.YtbajncpfmemdgaaGreatDoor
end
section
namespace Go.Proofs.YtbajncpfmemdgaaGreatDoor
open Go Go.Ev Go.IntWalk
theorem F300:bc Tryz.prog 300 Tryz.f300:=.of (by kernel_rfl) (by kernel_rfl)
theorem F303:bc Tryz.prog 303 Tryz.f303:=.of (by kernel_rfl) (by kernel_rfl)
theorem F306:bc Tryz.prog 306 Tryz.f306:=.of (by kernel_rfl) (by kernel_rfl)
theorem F314:bc Tryz.prog 314 Tryz.f314:=.of (by kernel_rfl) (by kernel_rfl)
section
variable [Env]
omit [Env] in
theorem xU {c:an} (h:c.f0=1) (t u:ae):kE c t u=bK c.f9:=if_pos h
omit [Env] in
theorem A8 {c:an} (h:c.f0=1) (t:ae):kT c t=[c.f9]:=if_pos h
omit [Env] in
theorem L6 {c:an} (h:c.f0=2) (t u:ae):kE c t u=kN t c.f8:=by
 have h1:¬c.f0=1:=by omega
 unfold kE;rw[if_neg h1,if_pos h]
omit [Env] in
theorem L7 {c:an} (h:c.f0=2) (t:ae):kT c t=[AZ t c.f8]:=by
 have h1:¬c.f0=1:=by omega
 unfold kT;rw[if_neg h1,if_pos h]
omit [Env] in
theorem A9 {c:an} (h:c.f0=3) (t u:ae):kE c t u=LN t c.f5:=by
 have h1:¬c.f0=1:=by omega
 have h2:¬c.f0=2:=by omega
 unfold kE;rw[if_neg h1,if_neg h2,if_pos h]
omit [Env] in
theorem L8 {c:an} (h:c.f0=3) (t:ae):kT c t=[wK t c.f5]:=by
 have h1:¬c.f0=1:=by omega
 have h2:¬c.f0=2:=by omega
 unfold kT;rw[if_neg h1,if_neg h2,if_pos h]
omit [Env] in
theorem L9 {c:an} (h:c.f0=4) (t u:ae):kE c t u=qV t c.f5 c.f6:=by
 have h1:¬c.f0=1:=by omega
 have h2:¬c.f0=2:=by omega
 have h3:¬c.f0=3:=by omega
 unfold kE;rw[if_neg h1,if_neg h2,if_neg h3,if_pos h]
omit [Env] in
theorem Ma {c:an} (h:c.f0=4) (t:ae):kT c t=[vB t c.f5 c.f6]:=by
 have h1:¬c.f0=1:=by omega
 have h2:¬c.f0=2:=by omega
 have h3:¬c.f0=3:=by omega
 unfold kT;rw[if_neg h1,if_neg h2,if_neg h3,if_pos h]
omit [Env] in
theorem Fv {c:an} (h:c.f0=5) (t u:ae):kE c t u=ki t c:=by
 have h1:¬c.f0=1:=by omega
 have h2:¬c.f0=2:=by omega
 have h3:¬c.f0=3:=by omega
 have h4:¬c.f0=4:=by omega
 unfold kE;rw[if_neg h1,if_neg h2,if_neg h3,if_neg h4,if_pos h]
omit [Env] in
theorem Mb {c:an} (h:c.f0=5) (t:ae):kT c t=vC t c:=by
 have h1:¬c.f0=1:=by omega
 have h2:¬c.f0=2:=by omega
 have h3:¬c.f0=3:=by omega
 have h4:¬c.f0=4:=by omega
 unfold kT;rw[if_neg h1,if_neg h2,if_neg h3,if_neg h4,if_pos h]
omit [Env] in
theorem aaq {c:an} (h:c.f0=6) (t u:ae):kE c t u=lB t u c:=by
 have h1:¬c.f0=1:=by omega
 have h2:¬c.f0=2:=by omega
 have h3:¬c.f0=3:=by omega
 have h4:¬c.f0=4:=by omega
 have h5:¬c.f0=5:=by omega
 unfold kE;rw[if_neg h1,if_neg h2,if_neg h3,if_neg h4,if_neg h5]
omit [Env] in
theorem Mc {c:an} (h:c.f0=6) (t:ae):kT c t=[E8 t c]:=by
 have h1:¬c.f0=1:=by omega
 have h2:¬c.f0=2:=by omega
 have h3:¬c.f0=3:=by omega
 have h4:¬c.f0=4:=by omega
 have h5:¬c.f0=5:=by omega
 unfold kT;rw[if_neg h1,if_neg h2,if_neg h3,if_neg h4,if_neg h5]
structure xn (σ:St) (k:ai) (E:Int) (T:List ae):Prop where
 ok:E=0→k (.tuple [.own σ.next T.length 3,.int .i64 0]) ((void σ.next).new σ.next (.row T.length (fun i=>ae.enc (T.getD i default)) 3 false))
 bad:E≠0→k (.tuple [.aj,.int .i64 E]) (void σ.next)
variable {σ:St} {k:ai} {E:Int} {T:List ae}
theorem xn.err (h:xn σ k E T) {e:Int} (he:E=e) (h0:e≠0) {τ:St}:aK (void σ.next) k (.tuple [.aj,.int .i64 e]) τ:=by
 subst he;exact aK.gf (.tuple (.cons .aj (.cons (.int _ _) .nil))) (h.bad h0)
theorem xn.one (h:xn σ k E T) {t:ae} (hT:T=[t]) {e:Int} (he:E=e) {b nx nx':Nat} {H:Trie b9}:(e=0→aK (void σ.next) k (.tuple [.own b 1 3,.int .i64 0]) ⟨(St.new Go.Ev.start b (.row 1 (fun i=>ae.enc ([t].getD i default)) 3 false)).heap,nx⟩)∧
  (e≠0→aK (void σ.next) k (.tuple [.aj,.int .i64 e]) ⟨H,nx'⟩):=by
 subst he;subst hT
 refine⟨fun h0=>aK.pair (b:=b) (n:=1) (esz:=3) (g:=fun i=>ae.enc ([t].getD i default)) (.own (f:=fun i=>ae.enc ([t].getD i default)) (p:=false) ?_ fun i hi=>fO (ae.clean _)) (.int _ _) (h.ok h0),fun h0=>h.err rfl h0⟩
 show(St.new Go.Ev.start b _).heap.get b=_
 rw[ia,if_pos rfl]
theorem fe {τ:St} {s:List UInt8} {q e:Int} {b n:Nat} {f:Nat→V} {p:Bool} {L:List ak} (hb:τ.heap.get b=some (.row n f 7 p)) (hr:bp n f L):bA τ [.agg [.str s,.int .i64 q,.own b n 7],.int .i64 e] [ae.enc ⟨s,q,L⟩,.int .i64 e]:=by
 obtain⟨rfl,h⟩:=hr
 refine .cons (.agg (.cons (.str _) (.cons (.int _ _) (.cons (.own (g:=fun i=>ak.enc (L.getD i default)) hb (fun i hi=>?_) fun i hi=>rfl) .nil)))) (.cons (.int _ _) .nil)
 rw[h i hi];exact fO (ak.clean _)
omit [Env] in
theorem bp.of (l:List ak):bp l.length (fun i=>ak.enc (l.getD i default)) l:=⟨rfl,fun _ _=>rfl⟩
omit [Env] in
theorem cB {b:Bool} {A B:Prop} (hb:b=true) (h:A):aa b A B:=aa.mk (fun _=>h) fun h'=>by rw[hb] at h';cases h'
variable [aL] {vs:List V}
omit [Env] [aL] in
theorem dV.eX {t:ae} (h:dV t):eX t:=fun c hc=>(h c hc).1
theorem V6 (h:Z9 vs σ k):ag Tryz.prog 300 vs k σ:=by
 obtain⟨c,l,hf,⟨hc,h0,_,_,_,ht⟩,hk,fB⟩:=h
 have ho:xn σ k _ _:=⟨hk,fB⟩
 refine ag.lX hf (F300.cd (live:=JO) (call:=CP) (fun h=>Fq h) (by kernel_rfl) ?_)
 rw[ahu]
 refine⟨c.f9,rfl,dV.eX hc.2,cB (by simp [V.beq,V.gS,ae.cells,af]) ⟨c.f9,bK c.f9,.cons (.clean c.f9.aE) (.cons (.int _ _) .nil),?_⟩⟩
 exact ho.one (A8 h0 _) (xU h0 _ _)
theorem Fw:∀ {f:FuncId} {vs:List V} {σ:St} {k:ai},zt f vs σ k→ag Tryz.prog f vs k σ:=fun h=>aD V6 Fq h
omit [Env] [aL] in
theorem zw {t:ae} {c:ak} (h:bJ c≠0):kN t c=bJ c:=if_pos h
omit [Env] [aL] in
theorem zx {t:ae} {c:ak} (h:¬bJ c≠0) (h2:0≤az t c.f0):kN t c=12:=(if_neg h).trans (if_pos h2)
omit [Env] [aL] in
theorem zy {t:ae} {c:ak} (h:¬bJ c≠0) (h2:¬ 0≤az t c.f0) (h3:8≤t.f2.length):kN t c=2:=((if_neg h).trans (if_neg h2)).trans (if_pos h3)
omit [Env] [aL] in
theorem Ox {t:ae} {c:ak} (h:¬bJ c≠0) (h2:¬ 0≤az t c.f0) (h3:¬ 8≤t.f2.length) (h4:c.f2=false∧c.f3.f0=0):kN t c=11:=(((if_neg h).trans (if_neg h2)).trans (if_neg h3)).trans (if_pos h4)
omit [Env] [aL] in
theorem zz {t:ae} {c:ak} (h:¬bJ c≠0) (h2:¬ 0≤az t c.f0) (h3:¬ 8≤t.f2.length) (h4:¬(c.f2=false∧c.f3.f0=0)):kN t c=bJ c:=
 ((((if_neg h).trans (if_neg h2)).trans (if_neg h3)).trans (if_neg h4)).trans (Decidable.not_not.1 h).symm
set_option maxRecDepth 100000 in
theorem V7 (h:aaf vs σ k):ag Tryz.prog 303 vs k σ:=by
 obtain⟨c,l,hf,⟨hc,h0,_,hl,_,ht⟩,hk,fB⟩:=h
 have ho:xn σ k _ _:=⟨hk,fB⟩
 obtain⟨n4,uf⟩:=ht _ (bm (show 0<l.length by omega))
 have hlen:0<(l.getD 0 default).f2.length∧(l.getD 0 default).f2.length≤8:=by have:=(kY uf).1;obtain⟨_,h1,_⟩:=this;omega
 refine ag.lX hf (F303.cd (live:=A6) (call:=zt) (fun h=>Fw h) (by kernel_rfl) ?_)
 have hT:=L7 h0 (l.getD 0 default)
 have hE:=L6 h0 (l.getD 0 default) (l.getD 1 default)
 rw[hT,hE] at ho
 obtain⟨f0,f1,f2,f3,f4,f5,f6,f7,⟨g0,g1,g2,g3⟩,f9⟩:=c
 have cT:mv ⟨g0,g1,g2,g3⟩:=hc.1.1
 cases g2 with
 | true=>
  refine(aco _ _ ⟨f0,f1,f2,f3,f4,f5,f6,f7,⟨g0,g1,true,g3⟩,f9⟩ l).mpr ⟨⟨by omega,by omega⟩,⟨g0,g1,true,g3⟩,rfl,cT,rfl,aq (fun a1=>⟨_,rfl,⟨by omega,by omega⟩,cB (by simp [V.beq,V.gS]) ⟨⟨rfl,by omega⟩,_,_,fe (p:=false) (by rfl) ((bp.of _).push ⟨g0,g1,true,g3⟩),ho.one rfl (zw a1)⟩⟩) fun a1=>?_⟩
  refine⟨_,_,rfl,by show(l.getD 0 default).f2.length≤1000;omega,rfl,aq (fun a2=>⟨_,rfl,⟨by omega,by omega⟩,cB (by simp [V.beq,V.gS]) ⟨⟨rfl,by omega⟩,_,_,fe (p:=false) (by rfl) ((bp.of _).push ⟨g0,g1,true,g3⟩),ho.one rfl (zx a1 a2)⟩⟩) fun a2=>⟨rfl,aq (fun a3=>⟨_,rfl,⟨by omega,by omega⟩,cB (by simp [V.beq,V.gS]) ⟨⟨rfl,by omega⟩,_,_,fe (p:=false) (by rfl) ((bp.of _).push ⟨g0,g1,true,g3⟩),ho.one rfl (zy a1 a2 (by omega))⟩⟩) fun a3=>?_⟩⟩
  exact⟨_,rfl,⟨by omega,by omega⟩,cB (by simp [V.beq,V.gS]) ⟨⟨rfl,by omega⟩,_,_,fe (p:=false) (by rfl) ((bp.of _).push ⟨g0,g1,true,g3⟩),ho.one rfl (zz a1 a2 (by omega) fun h=>by cases h.1)⟩⟩
 | false=>
  refine(acp _ _ ⟨f0,f1,f2,f3,f4,f5,f6,f7,⟨g0,g1,false,g3⟩,f9⟩ l).mpr ⟨⟨by omega,by omega⟩,⟨g0,g1,false,g3⟩,rfl,cT,rfl,aq (fun a1=>⟨_,rfl,⟨by omega,by omega⟩,cB (by simp [V.beq,V.gS]) ⟨⟨rfl,by omega⟩,_,_,fe (p:=false) (by rfl) ((bp.of _).push ⟨g0,g1,false,g3⟩),ho.one rfl (zw a1)⟩⟩) fun a1=>?_⟩
  refine⟨_,_,rfl,by show(l.getD 0 default).f2.length≤1000;omega,rfl,aq (fun a2=>⟨_,rfl,⟨by omega,by omega⟩,cB (by simp [V.beq,V.gS]) ⟨⟨rfl,by omega⟩,_,_,fe (p:=false) (by rfl) ((bp.of _).push ⟨g0,g1,false,g3⟩),ho.one rfl (zx a1 a2)⟩⟩) fun a2=>⟨rfl,aq (fun a3=>⟨_,rfl,⟨by omega,by omega⟩,cB (by simp [V.beq,V.gS]) ⟨⟨rfl,by omega⟩,_,_,fe (p:=false) (by rfl) ((bp.of _).push ⟨g0,g1,false,g3⟩),ho.one rfl (zy a1 a2 (by omega))⟩⟩) fun a3=>?_⟩⟩
  refine⟨rfl,aq (fun a4=>?_) fun a4=>?_⟩
  ·exact⟨_,rfl,⟨by omega,by omega⟩,cB (by simp [V.beq,V.gS]) ⟨⟨rfl,by omega⟩,_,_,fe (p:=false) (by rfl) ((bp.of _).push ⟨g0,g1,false,g3⟩),ho.one rfl (Ox a1 a2 (by omega) ⟨rfl,a4⟩)⟩⟩
  ·exact⟨_,rfl,⟨by omega,by omega⟩,cB (by simp [V.beq,V.gS]) ⟨⟨rfl,by omega⟩,_,_,fe (p:=false) (by rfl) ((bp.of _).push ⟨g0,g1,false,g3⟩),ho.one rfl (zz a1 a2 (by omega) fun h=>a4 h.2)⟩⟩
theorem Fx:∀ {f:FuncId} {vs:List V} {σ:St} {k:ai},CQ f vs σ k→ag Tryz.prog f vs k σ:=fun h=>aD V7 Fw h
omit [Env] [aL] in
theorem pM (t:ae) (s:List UInt8): -1≤az t s∧az t s<t.f2.length:=by
 rcases jJ s (fun i=>(t.f2.getD i default).f0) t.f2.length with ⟨h,_⟩ | ⟨i,h,hi,_⟩
 ·have:az t s= -1:=h
  omega
 ·have:az t s=i:=h
  omega
theorem V8 (h:aai vs σ k):ag Tryz.prog 306 vs k σ:=by
 obtain⟨c,l,hf,⟨hc,h0,_,hl,_,ht⟩,hk,fB⟩:=h
 have ho:xn σ k _ _:=⟨hk,fB⟩
 obtain⟨n4,uf⟩:=ht _ (bm (show 0<l.length by omega))
 have hlen:0<(l.getD 0 default).f2.length∧(l.getD 0 default).f2.length≤8∧1≤(l.getD 0 default).f1:=by have:=(kY uf).1;obtain⟨_,h1,h2,_⟩:=this;omega
 refine ag.lX hf (F306.cd (live:=JP) (call:=CQ) (fun h=>Fx h) (by kernel_rfl) ?_)
 rw[L8 h0 (l.getD 0 default),A9 h0 (l.getD 0 default) (l.getD 1 default)] at ho
 have hca:=pM (l.getD 0 default) c.f5
 rw[ahv]
 refine⟨⟨by omega,by omega⟩,_,_,rfl,by show(l.getD 0 default).f2.length≤1000;omega,rfl,aq (fun a1=>ho.err (if_pos a1) (by decide)) fun a1=>?_⟩
 obtain⟨i,hi⟩:∃i:Nat,az (l.getD 0 default) c.f5=i:=⟨(az (l.getD 0 default) c.f5).toNat,by omega⟩
 refine⟨_,rfl,⟨by omega,by omega⟩,(l.getD 0 default).f2,i,⟨rfl,hi,?_⟩,by rfl,⟨by omega,by omega,by omega⟩,fun n f hr=>⟨_,_,fe (p:=false) (by rfl) hr,ho.one ?_ (if_neg a1)⟩⟩
 ·rw[hi];exact i64_in _ (by omega)
 ·have:(fun j:Nat=>decide (j≠i))=fun j:Nat=>decide ((j:Int)≠az (l.getD 0 default) c.f5):=funext fun j=>by rw[hi];exact decide_eq_decide.2 ⟨fun h e=>h (by omega),fun h e=>h (by omega)⟩
  rw[this];rfl
theorem Fy:∀ {f:FuncId} {vs:List V} {σ:St} {k:ai},CR f vs σ k→ag Tryz.prog f vs k σ:=fun h=>aD V8 Fx h
theorem V9 (h:aak vs σ k):ag Tryz.prog 314 vs k σ:=by
 obtain⟨c,l,hf,⟨hc,h0,_,hl,_,ht⟩,hk,fB⟩:=h
 have ho:xn σ k _ _:=⟨hk,fB⟩
 obtain⟨n4,uf⟩:=ht _ (bm (show 0<l.length by omega))
 have hlen:0<(l.getD 0 default).f2.length∧(l.getD 0 default).f2.length≤8:=by have:=(kY uf).1;obtain⟨_,h1,_⟩:=this;omega
 refine ag.lX hf (F314.cd (live:=JQ) (call:=CR) (fun h=>Fy h) (by kernel_rfl) ?_)
 rw[Mc h0 (l.getD 0 default),aaq h0 (l.getD 0 default) (l.getD 1 default)] at ho
 rw[ahw];unfold RE RD
 have e12:c.f1=c.f2→lB (l.getD 0 default) (l.getD 1 default) c=12:=fun h=>if_pos h
 have en:¬c.f1=c.f2→aF c.f3≠0→lB (l.getD 0 default) (l.getD 1 default) c=aF c.f3:=fun h1 h2=>(if_neg h1).trans (if_pos h2)
 have Oy:¬c.f1=c.f2→aF c.f3=0→((l.getD 0 default).f1≠(l.getD 1 default).f1∨(l.getD 0 default).f2≠(l.getD 1 default).f2)→lB (l.getD 0 default) (l.getD 1 default) c=11:=fun h1 h2 h3=>((if_neg h1).trans (if_neg fun h=>h h2)).trans (if_pos h3)
 have e0:¬c.f1=c.f2→aF c.f3=0→¬((l.getD 0 default).f1≠(l.getD 1 default).f1∨(l.getD 0 default).f2≠(l.getD 1 default).f2)→lB (l.getD 0 default) (l.getD 1 default) c=aF c.f3:=fun h1 h2 h3=>(((if_neg h1).trans (if_neg fun h=>h h2)).trans (if_neg h3)).trans h2.symm
 refine aq (fun a1=>ho.err (e12 a1) (by decide)) fun a1=>⟨⟨by omega,by omega⟩,rfl,aq (fun a2=>⟨⟨by omega,by omega⟩,rfl,aq (fun a3=>?_) fun a3=>⟨⟨by omega,by omega⟩,_,_,rfl,by omega,fun b hb=>aa.mk (fun a4=>?_) fun a4=>?_⟩⟩) fun a2=>?_⟩
 ·exact⟨_,rfl,⟨by omega,by omega⟩,cB (by simp [V.beq]) ⟨_,_,fe (p:=false) (by rfl) (bp.of _),ho.one rfl (Oy a1 a2 (.inl a3))⟩⟩
 ·exact⟨_,rfl,⟨by omega,by omega⟩,cB (by simp [V.beq]) ⟨_,_,fe (p:=false) (by rfl) (bp.of _),ho.one rfl (Oy a1 a2 (.inr fun e=>by rw[hb.2 e] at a4;cases a4))⟩⟩
 ·exact⟨_,rfl,⟨by omega,by omega⟩,cB (by simp [V.beq]) ⟨_,_,fe (p:=false) (by rfl) (bp.of _),ho.one rfl (e0 a1 a2 fun h=>by
   rcases h with h | h
   ·exact a3 h
   ·exact h (hb.1 (by simpa using a4)))⟩⟩
 ·exact⟨_,rfl,⟨by omega,by omega⟩,cB (by simp [V.beq]) ⟨_,_,fe (p:=false) (by rfl) (bp.of _),ho.one rfl (en a1 a2)⟩⟩
theorem Fz:∀ {f:FuncId} {vs:List V} {σ:St} {k:ai},iE f vs σ k→ag Tryz.prog f vs k σ:=fun h=>aD V9 Fy h
end
end Go.Proofs.YtbajncpfmemdgaaGreatDoor
end
section
namespace Go.Proofs.YtbajncpfmemdgaaGreatDoor
open Go Go.Ev Go.IntWalk
theorem F311:bc Tryz.prog 311 Tryz.f311:=.of (by kernel_rfl) (by kernel_rfl)
def gD (t:ae) (i:Nat):ak:=t.f2.getD i default
def gg (s:SP) (L:List ak):Prop:=(L=[]∧s=.val .aj)∨∃n f,0<n∧bp n f L∧s=.row n f 7
theorem gg.one (x:ak):gg (.row 1 (fun _=>.agg (ak.cells x)) 7) [x]:=.inr ⟨1,_,by omega,bp.one x,rfl⟩
theorem gg.push {n:Nat} {f:Nat→V} {L:List ak} (h:bp n f L) (x:ak):gg (.row (n+1) (cw n f fun _=>.agg (ak.cells x)) 7) (L++[x]):=.inr ⟨_,_,by omega,h.push x,rfl⟩
theorem gg.clean [Env] {s:SP} {L:List ak} (h:gg s L):s.clean:=by
 rcases h with ⟨_,rfl⟩ | ⟨n,f,_,hr,rfl⟩
 ·exact Go.Ev.Clean.aj
 ·exact hr.cl
theorem rT {α:Type} {p:Nat→Bool} {q:Nat→α} (h0:p 0=true):∀n,0<n→bh p q n≠[]
 | 0,h=>absurd h (Nat.lt_irrefl 0)
 | n+1,_=>by
  show(if p n=true then bh p q n++[q n] else bh p q n)≠[]
  by_cases e:n=0
  ·subst e;rw[if_pos h0];simp
  ·split
   ·simp
   ·exact rT h0 n (by omega)
def dz (t:ae) (c:an) (b:Bool) (i:Nat):List ak:=bh (hZ t c b) (gD t) i
abbrev Ba (c:an) (t:ae) (r1 r2:SP):SV:=.nest (.sl 2 2 3 true) [.val (.str c.f3),.val (.int .i64 t.f1),r1,.val (.str c.f4),.val (.int .i64 t.f1),r2]
def jN (t:ae) (c:an) (i:Nat):Int:=if az t (c.f7.getD i default)<t.f1∨gP c.f7 (c.f7.getD i default)≠i then 10 else 0
def xV (c:an) (t:ae):Nat→List SV→Prop
 | 0,ss=>∃i:Nat,(i≤c.f7.length∧aF c.f3=0∧aF c.f4=0∧¬c.f3=c.f4)∧(∀j,j<i→jN t c j=0)∧ss=[.box c.cells,.box t.cells,.val (af V.str 1 c.f7),.val (.int .i64 ((c.f7.length:Nat):Int)),.val (.int .i64 (i:Int))]
 | 1,ss=>ki t c=0∧∃(i:Nat) (r1 r2:SP),i≤t.f2.length∧gg r1 (dz t c true i)∧gg r2 (dz t c false i)∧ss=[.box c.cells,.box t.cells,Ba c t r1 r2,.val (af ak.enc 7 t.f2),.val (.int .i64 ((t.f2.length:Nat):Int)),.val (.int .i64 (i:Int))]
 | 2,ss=>ki t c=0∧∃(i q:Nat) (r1 r2:SP),i<t.f2.length∧q≤2∧gg r1 (dz t c true (i+if 1≤q then 1 else 0))∧gg r2 (dz t c false (i+if 2≤q then 1 else 0))∧
   ss=[.box c.cells,.box t.cells,Ba c t r1 r2,.val (.int .i64 (i:Int)),.box (gD t i).cells,.val (.bool (named t c i)),.val (af ak.enc 7 t.f2),.val (.int .i64 ((t.f2.length:Nat):Int)),.val (.int .i64 (i:Int)),.val (.int .i64 (2:Int)),.val (.int .i64 (q:Int))]
 | _,_=>False
def at3:List SV→Nat
 | [_,_,_,.val (.int _ u),_,_,_,_,_,_,_]=>u.toNat
 | _=>0
def ahy (c:an) (t:ae):Nat→List SV→Nat
 | 0,ss=>200+(c.f7.length-bF ss)
 | 1,ss=>10*(t.f2.length-bF ss)+5
 | _,ss=>10*(t.f2.length-at3 ss)+(3-bF ss)
section
variable [Env]
omit [Env] in
theorem tf {t:ae} {c:an} (h1:aF c.f3=0) (h2:aF c.f4=0) (h3:¬c.f3=c.f4) {i:Nat} (hi:i<c.f7.length) (hb:jN t c i≠0) (hj:∀j,j<i→jN t c j=0):ki t c=10:=by
 have:dy (jN t c) c.f7.length=jN t c i:=jg _ _ i hi hb hj
 have lO:jN t c i=10:=by
  unfold jN at hb⊢
  split
  ·rfl
  ·rename_i h;rw[if_neg h] at hb;exact(hb rfl).elim
 unfold ki
 rw[if_neg fun h=>h h1,if_neg fun h=>h h2,if_neg h3]
 exact this.trans lO
omit [Env] in
theorem JR {t:ae} {c:an} (h1:aF c.f3=0) (h2:aF c.f4=0) (h3:¬c.f3=c.f4) (hj:∀j,j<c.f7.length→jN t c j=0):ki t c=0:=by
 unfold ki
 rw[if_neg fun h=>h h1,if_neg fun h=>h h2,if_neg h3]
 exact(cu (jN t c) c.f7.length).2 hj
omit [Env] in
theorem nj {t:ae} {c:an} {b:Bool} {i:Nat} (h:hZ t c b i=true):dz t c b (i+1)=dz t c b i++[gD t i]:=if_pos h
omit [Env] in
theorem tg {t:ae} {c:an} {b:Bool} {i:Nat} (h:¬hZ t c b i=true):dz t c b (i+1)=dz t c b i:=if_neg h
omit [Env] in
theorem kl {t:ae} {c:an} {b:Bool} {i:Nat} (h:(i:Int)<t.f1):hZ t c b i=true:=by unfold hZ;rw[decide_eq_true h,Bool.true_or]
omit [Env] in
theorem ji {t:ae} {c:an} {b:Bool} {i:Nat} (h:¬(i:Int)<t.f1):hZ t c b i=(named t c i==b):=by unfold hZ;rw[decide_eq_false h,Bool.false_or]
theorem Md {c:an} {t:ae} {l:List SV} (hl:∀u∈l,u.clean):∀u∈SV.box c.cells::SV.box t.cells::l,u.clean:=ax (an.clean c) (ax (ae.clean t) hl)
theorem zA {c:an} {t:ae} {r1 r2:SP} (h1:r1.clean) (h2:r2.clean):(Ba c t r1 r2).clean:=by
 intro p hp
 have hp:p∈[SP.val (.str c.f3),SP.val (.int .i64 t.f1),r1,SP.val (.str c.f4),SP.val (.int .i64 t.f1),r2]:=hp
 simp only[List.mem_cons,List.not_mem_nil,or_false] at hp
 rcases hp with rfl | rfl | rfl | rfl | rfl | rfl
 ·exact Go.Ev.Clean.str _
 ·exact Go.Ev.Clean.int _ _
 ·exact h1
 ·exact Go.Ev.Clean.str _
 ·exact Go.Ev.Clean.int _ _
 ·exact h2
theorem xV.clean {c:an} {t:ae}:∀k ss,xV c t k ss→∀s∈ss,s.clean
 | 0,_,⟨_,_,_,e⟩=>by subst e;exact Md (ax (dF _) (ay (ay bg)))
 | 1,_,⟨_,_,_,_,_,h1,h2,e⟩=>by subst e;exact Md (ax (zA h1.clean h2.clean) (ax (er _) (ay (ay bg))))
 | 2,_,⟨_,_,_,_,_,_,_,h1,h2,e⟩=>by subst e;exact Md (ax (zA h1.clean h2.clean) (ay (ax (ak.clean _) (ax (Go.Ev.Clean.bool _) (ax (er _) (ay (ay (ay (ay bg)))))))))
 | n+3,_,h=>h.elim
omit [Env] in
theorem gg.FA {s:SP} {L:List ak} (h:gg s L) (hL:L=[]):s=.val .aj:=by
 rcases h with ⟨_,h⟩ | ⟨n,f,h0,hr,_⟩
 ·exact h
 ·have:=hr.1;rw[hL] at this;simp at this;omega
omit [Env] in
theorem gg.vF {s:SP} {L:List ak} (h:gg s L) (hL:L≠[]):∃n f,bp n f L∧s=.row n f 7:=by
 rcases h with ⟨h,_⟩ | ⟨n,f,_,hr,h⟩
 ·exact(hL h).elim
 ·exact⟨n,f,hr,h⟩
omit [Env] in
theorem bp.lt {t:ae} {c:an} {b:Bool} {i n:Nat} {f:Nat→V} (h:bp n f (dz t c b i)) (hi:i≤9):n≤9:=by
 have:=kj (hZ t c b) (gD t) i
 have h2:n=(dz t c b i).length:=h.1
 unfold dz at h2
 omega
omit [Env] in
theorem Wa (x y:Int):TS [x,y]=if x≠0 then x else y:=by
 show(if (if (0:Int)≠0 then 0 else x)≠0 then(if (0:Int)≠0 then 0 else x) else y)=_
 rw[if_neg (show ¬(0:Int)≠0 by decide)]
variable [aL] {vs:List V} {σ:St} {k:ai}
theorem Wb (h:aap vs σ k):ag Tryz.prog 311 vs k σ:=by
 obtain⟨c,l,hf,⟨hc,h0,hP,hl,_,ht⟩,hk,fB⟩:=h
 have ho:xn σ k _ _:=⟨hk,fB⟩
 obtain⟨n4,uf⟩:=ht _ (bm (show 0<l.length by omega))
 rw[Mb h0 (l.getD 0 default),Fv h0 (l.getD 0 default) (l.getD 1 default)] at ho
 obtain⟨t,htt⟩:∃t,t=l.getD 0 default:=⟨_,rfl⟩
 rw[←htt] at ho uf n4
 have hlen:0<t.f2.length∧t.f2.length≤8∧1≤t.f1:=by have:=(kY uf).1;obtain⟨_,h1,h2,_⟩:=this;omega
 have bN:∀b i,0<i→dz t c b i≠[]:=fun b i hi=>rT (kl (by omega)) i hi
 refine ag.lX hf (F311.gV (live:=fP) (call:=iE) (fun h=>Fz h) 3 (by kernel_rfl) Nat.lt_wfRel.wf (ahy c t) (xV c t) xV.clean ?_ ?_)
 ·rw[ahx,←htt]
  have h3:ki t c=if aF c.f3≠0 then aF c.f3 else if aF c.f4≠0 then aF c.f4 else if c.f3=c.f4 then 12 else dy (jN t c) c.f7.length:=rfl
  refine⟨⟨by omega,by omega⟩,cB (by simp [V.beq]) ⟨[aF c.f3,aF c.f4],.cons (.jT (.slice (es:=[.int .i64 (aF c.f3),.int .i64 (aF c.f4)]) (by rfl) (.cons (.int _ _) (.cons (.int _ _) .nil)) (fun v hv=>?_) rfl)) .nil,by simp,rfl,?_⟩⟩
  ·simp only[List.mem_cons,List.not_mem_nil,or_false] at hv
   rcases hv with rfl | rfl<;>rfl
  ·rw[Wa]
   refine aq (fun a=>ho.err ?_ a) fun a=>aq (fun a2=>ho.err ?_ (by decide)) fun a2=>⟨0,⟨by omega,?_,?_,a2⟩,fun j hj=>absurd hj (Nat.not_lt_zero j),rfl⟩
   ·rw[h3]
    by_cases g1:aF c.f3=0
    ·have e3:¬aF c.f3≠0:=fun h=>h g1
     rw[if_neg e3] at a
     rw[if_neg e3,if_neg e3,if_pos a]
    ·rw[if_pos g1,if_pos g1]
   ·have g1:aF c.f3=0:=Classical.byContradiction fun g=>a (by rw[if_pos g];exact g)
    have g2:aF c.f4=0:=Classical.byContradiction fun g=>a (by rw[if_neg fun h=>h g1];exact g)
    rw[h3,if_neg fun h=>h g1,if_neg fun h=>h g2,if_pos a2]
   ·exact Classical.byContradiction fun g=>a (by rw[if_pos g];exact g)
   ·have g1:aF c.f3=0:=Classical.byContradiction fun g=>a (by rw[if_pos g];exact g)
    exact Classical.byContradiction fun g=>a (by rw[if_neg fun h=>h g1];exact g)
 ·intro j hj ss hI
  match j,hI with
  | 0,hI=>
   obtain⟨i,⟨hi,g1,g2,g3⟩,hb,rfl⟩:=hI
   rw[acq]
   refine⟨rfl,aq (fun a1=>⟨⟨by omega,by omega⟩,t,_,rfl,by omega,cB (by simp [V.beq]) ⟨rfl,aq (fun a2=>ho.err ?_ (by decide)) fun a2=>⟨_,rfl,hP,rfl,aq (fun a3=>ho.err ?_ (by decide)) fun a3=>?_⟩⟩⟩) fun a1=>?_⟩
   ·rw[cA] at a2
    exact tf g1 g2 g3 (i:=i) (by omega) (by unfold jN;rw[if_pos (.inl a2)];decide) hb
   ·rw[cA] at a2 a3
    exact tf g1 g2 g3 (i:=i) (by omega) (by unfold jN;rw[if_pos (.inr a3)];decide) hb
   ·rw[cA] at a2 a3
    rw[i64_in ((i:Int)+1) (by omega)]
    refine⟨⟨i+1,⟨by omega,g1,g2,g3⟩,fun j hj=>?_,rfl⟩,?_⟩
    ·by_cases e:j=i
     ·subst e;unfold jN;rw[if_neg]
      rintro(h | h)
      ·exact a2 h
      ·exact a3 h
     ·exact hb j (by omega)
    ·show 200+(c.f7.length-((i:Int)+1).toNat)<200+(c.f7.length-(i:Int).toNat)
     omega
   ·obtain rfl:i=c.f7.length:=by omega
    refine⟨⟨JR g1 g2 g3 hb,0,.val .aj,.val .aj,by omega,.inl ⟨rfl,rfl⟩,.inl ⟨rfl,rfl⟩,rfl⟩,?_⟩
    show 10*(t.f2.length-(0:Int).toNat)+5<200+_
    omega
  | 1,hI=>
   obtain⟨hE,i,r1,r2,hi,h1,h2,rfl⟩:=hI
   by_cases e0:i=0
   ·subst e0
    obtain rfl:=h1.FA rfl
    obtain rfl:=h2.FA rfl
    rw[acr]
    refine⟨rfl,aq (fun a1=>⟨⟨by omega,by omega⟩,_,rfl,hP,⟨hE,0,0,.val .aj,.val .aj,by omega,by omega,.inl ⟨rfl,rfl⟩,.inl ⟨rfl,rfl⟩,rfl⟩,?_⟩) fun a1=>by omega⟩
    show 10*(t.f2.length-(0:Int).toNat)+(3-(0:Int).toNat)<10*(t.f2.length-(0:Int).toNat)+5
    omega
   ·obtain⟨a,f,vG,rfl⟩:=h1.vF (bN _ _ (by omega))
    obtain⟨b,g,rA,rfl⟩:=h2.vF (bN _ _ (by omega))
    rw[acs]
    refine⟨rfl,aq (fun a1=>⟨⟨by omega,by omega⟩,_,rfl,hP,⟨rfl,rfl⟩,⟨rfl,rfl⟩,⟨hE,i,0,_,_,by omega,by omega,h1,h2,rfl⟩,?_⟩) fun a1=>?_⟩
    ·show 10*(t.f2.length-(i:Int).toNat)+(3-(0:Int).toNat)<10*(t.f2.length-(i:Int).toNat)+5
     omega
    ·obtain rfl:i=t.f2.length:=by omega
     refine aK.pair (b:=2) (n:=2) (esz:=3) (g:=fun i=>ae.enc ((vC t c).getD i default)) (.slice (p:=false) (by rfl) (.inl ⟨rfl,Nat.le_refl _⟩) (fun _ _=>rfl) fun i hi=>?_) (.int _ _) (ho.ok hE)
     rcases(show i=0∨i=1 by omega) with rfl | rfl
     ·obtain⟨rfl,hr⟩:=vG
      exact⟨_,by rfl,.cons (.str _) (.cons (.int _ _) (.cons (.own (g:=fun i=>ak.enc ((dz t c true t.f2.length).getD i default)) (p:=false) (by rfl) (fun i hi=>by rw[hr i hi];exact fO (ak.clean _)) fun i hi=>rfl) .nil))⟩
     ·obtain⟨rfl,hr⟩:=rA
      exact⟨_,by rfl,.cons (.str _) (.cons (.int _ _) (.cons (.own (g:=fun i=>ak.enc ((dz t c false t.f2.length).getD i default)) (p:=false) (by rfl) (fun i hi=>by rw[hr i hi];exact fO (ak.clean _)) fun i hi=>rfl) .nil))⟩
  | 2,hI=>
   obtain⟨hE,i,q,r1,r2,hi,hq,h1,h2,rfl⟩:=hI
   have key:((i:Nat):Int)<t.f1→∀b,hZ t c b i=true:=fun h b=>kl h
   rcases(show q=0∨q=1∨q=2 by omega) with rfl | rfl | rfl
   ·have h1:gg r1 (dz t c true i):=h1
    have h2:gg r2 (dz t c false i):=h2
    have nx:∀r,gg r (dz t c true (i+1))→∀b,named t c i=b→xV c t 2 [.box c.cells,.box t.cells,Ba c t r r2,.val (.int .i64 (i:Int)),.box (gD t i).cells,.val (.bool b),.val (af ak.enc 7 t.f2),.val (.int .i64 ((t.f2.length:Nat):Int)),.val (.int .i64 (i:Int)),.val (.int .i64 (2:Int)),.val (.int .i64 (1:Int))]∧
      10*(t.f2.length-(i:Int).toNat)+(3-(1:Int).toNat)<10*(t.f2.length-(i:Int).toNat)+(3-(0:Int).toNat):=fun r hr b hb=>⟨⟨hE,i,1,r,r2,hi,by omega,hr,h2,by rw[hb];rfl⟩,by omega⟩
    rw[show(((0:Nat)):Int)=0 from rfl]
    by_cases e0:i=0
    ·subst e0
     obtain rfl:=h1.FA rfl
     obtain rfl:=h2.FA rfl
     have s1:dz t c true (0+1)=[gD t 0]:=nj (key (by omega) _)
     have nx:=fun b hb=>nx (.row 1 (fun _=>.agg (ak.cells (gD t 0))) 7) (by rw[s1];exact gg.one _) b hb
     cases hb:named t c 0 with
     | true=>rw[VW];unfold RI;exact⟨rfl,rfl,aq (fun _=>⟨⟨rfl,rfl,rfl⟩,nx _ hb⟩) fun a=>absurd (show((0:Nat):Int)<t.f1 by omega) a⟩
     | false=>rw[VX];unfold RH;exact⟨rfl,rfl,aq (fun _=>⟨⟨rfl,rfl,rfl⟩,nx _ hb⟩) fun a=>absurd (show((0:Nat):Int)<t.f1 by omega) a⟩
    ·obtain⟨a,f,vG,rfl⟩:=h1.vF (bN _ _ (by omega))
     obtain⟨b,g,rA,rfl⟩:=h2.vF (bN _ _ (by omega))
     have ha:=vG.lt (by omega)
     have FB:hZ t c true i=true→∀b',named t c i=b'→_:=fun h b' hb=>nx (.row (a+1) (cw a f fun _=>.agg (ak.cells (gD t i))) 7) (by rw[nj h];exact gg.push vG _) b' hb
     have RP:¬hZ t c true i=true→∀b',named t c i=b'→_:=fun h b' hb=>nx (.row a f 7) (by rw[tg h];exact h1) b' hb
     cases hb:named t c i with
     | true=>rw[V0];unfold RN L4;exact⟨rfl,rfl,aq (fun k=>⟨⟨rfl,by omega⟩,⟨rfl,rfl⟩,⟨rfl,rfl⟩,FB (key k _) _ hb⟩) fun k=>⟨rfl,aa.mk (fun _=>⟨⟨rfl,by omega⟩,⟨rfl,rfl⟩,⟨rfl,rfl⟩,FB (by rw[ji k,hb];rfl) _ hb⟩) fun h=>by cases h⟩⟩
     | false=>rw[V1];unfold RL L3;exact⟨rfl,rfl,aq (fun k=>⟨⟨rfl,by omega⟩,⟨rfl,rfl⟩,⟨rfl,rfl⟩,FB (key k _) _ hb⟩) fun k=>⟨rfl,aa.mk (fun h=>by cases h) fun _=>⟨⟨rfl,rfl⟩,⟨rfl,rfl⟩,RP (by rw[ji k,hb];decide) _ hb⟩⟩⟩
   ·have h1:gg r1 (dz t c true (i+1)):=h1
    have h2:gg r2 (dz t c false i):=h2
    have nx:∀r,gg r (dz t c false (i+1))→∀b,named t c i=b→xV c t 2 [.box c.cells,.box t.cells,Ba c t r1 r,.val (.int .i64 (i:Int)),.box (gD t i).cells,.val (.bool b),.val (af ak.enc 7 t.f2),.val (.int .i64 ((t.f2.length:Nat):Int)),.val (.int .i64 (i:Int)),.val (.int .i64 (2:Int)),.val (.int .i64 (2:Int))]∧
      10*(t.f2.length-(i:Int).toNat)+(3-(2:Int).toNat)<10*(t.f2.length-(i:Int).toNat)+(3-(1:Int).toNat):=fun r hr b hb=>⟨⟨hE,i,2,r1,r,hi,by omega,h1,hr,by rw[hb];rfl⟩,by omega⟩
    rw[show(((1:Nat)):Int)=1 from rfl]
    obtain⟨a,f,vG,rfl⟩:=h1.vF (bN _ _ (by omega))
    by_cases e0:i=0
    ·subst e0
     obtain rfl:=h2.FA rfl
     have s1:dz t c false (0+1)=[gD t 0]:=nj (key (by omega) _)
     have nx:=fun b hb=>nx (.row 1 (fun _=>.agg (ak.cells (gD t 0))) 7) (by rw[s1];exact gg.one _) b hb
     cases hb:named t c 0 with
     | true=>rw[VY];unfold RK;exact⟨rfl,rfl,aq (fun _=>⟨⟨rfl,rfl⟩,⟨rfl,rfl,rfl⟩,nx _ hb⟩) fun a=>absurd (show((0:Nat):Int)<t.f1 by omega) a⟩
     | false=>rw[VZ];unfold RJ;exact⟨rfl,rfl,aq (fun _=>⟨⟨rfl,rfl⟩,⟨rfl,rfl,rfl⟩,nx _ hb⟩) fun a=>absurd (show((0:Nat):Int)<t.f1 by omega) a⟩
    ·obtain⟨b,g,rA,rfl⟩:=h2.vF (bN _ _ (by omega))
     have bG:=rA.lt (by omega)
     have FB:hZ t c false i=true→∀b',named t c i=b'→_:=fun h b' hb=>nx (.row (b+1) (cw b g fun _=>.agg (ak.cells (gD t i))) 7) (by rw[nj h];exact gg.push rA _) b' hb
     have RP:¬hZ t c false i=true→∀b',named t c i=b'→_:=fun h b' hb=>nx (.row b g 7) (by rw[tg h];exact h2) b' hb
     cases hb:named t c i with
     | false=>rw[V3];unfold RM L3;exact⟨rfl,rfl,aq (fun k=>⟨⟨rfl,by omega⟩,⟨rfl,rfl⟩,⟨rfl,rfl⟩,FB (key k _) _ hb⟩) fun k=>⟨rfl,aa.mk (fun _=>⟨⟨rfl,by omega⟩,⟨rfl,rfl⟩,⟨rfl,rfl⟩,FB (by rw[ji k,hb];rfl) _ hb⟩) fun h=>by cases h⟩⟩
     | true=>rw[V2];unfold RO L4;exact⟨rfl,rfl,aq (fun k=>⟨⟨rfl,by omega⟩,⟨rfl,rfl⟩,⟨rfl,rfl⟩,FB (key k _) _ hb⟩) fun k=>⟨rfl,aa.mk (fun h=>by cases h) fun _=>⟨⟨rfl,rfl⟩,⟨rfl,rfl⟩,RP (by rw[ji k,hb];decide) _ hb⟩⟩⟩
   ·have h1:gg r1 (dz t c true (i+1)):=h1
    have h2:gg r2 (dz t c false (i+1)):=h2
    rw[show(((2:Nat)):Int)=2 from rfl]
    obtain⟨a,f,vG,rfl⟩:=h1.vF (bN _ _ (by omega))
    obtain⟨b,g,rA,rfl⟩:=h2.vF (bN _ _ (by omega))
    have nx:xV c t 1 [.box c.cells,.box t.cells,Ba c t (.row a f 7) (.row b g 7),.val (af ak.enc 7 t.f2),.val (.int .i64 ((t.f2.length:Nat):Int)),.val (.int .i64 (IntKind.i64.wrap ((i:Int)+1)))]∧
      10*(t.f2.length-(IntKind.i64.wrap ((i:Int)+1)).toNat)+5<10*(t.f2.length-(i:Int).toNat)+(3-(2:Int).toNat):=by
     rw[i64_in ((i:Int)+1) (by omega)]
     exact⟨⟨hE,i+1,_,_,by omega,h1,h2,rfl⟩,by omega⟩
    cases hb:named t c i with
    | true=>rw[V4];unfold L5;exact⟨rfl,⟨rfl,rfl⟩,⟨rfl,rfl⟩,nx⟩
    | false=>rw[V5];unfold L5;exact⟨rfl,⟨rfl,rfl⟩,⟨rfl,rfl⟩,nx⟩
  | n+3,hI=>exact hI.elim
theorem FC:∀ {f:FuncId} {vs:List V} {σ:St} {k:ai},zu f vs σ k→ag Tryz.prog f vs k σ:=fun h=>aD Wb Fz h
end
end Go.Proofs.YtbajncpfmemdgaaGreatDoor
end
