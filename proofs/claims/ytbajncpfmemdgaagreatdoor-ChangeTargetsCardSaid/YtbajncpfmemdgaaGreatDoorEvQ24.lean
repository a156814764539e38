/- Proved: parts of the way: BEq21, BD4, BD5. -/
import Derived.Test.YtbajncpfmemdgaaGreatDoorEvQ23
section
namespace Go.Proofs.YtbajncpfmemdgaaGreatDoor
open Go Go.Ev
def gg:Nat→List Nat:=(fun i=>match i with | 0=>[2,6,35,36,37] | 1=>[2,6,10,69,70,71] | 2=>[2,6,10,11,12,13,69,70,71,82,83] | _=>[])
theorem ahS [Env] (A:Nat→List SV→Prop) (Q:V→St→Prop) (c:an) (l:List af):WE Tryz.prog 311 Tryz.f311 iM 0 gg A Q [an.enc c,ae af.enc 3 l] Go.Ev.start=
  (((0≤(0:Int)∧(0:Int)<((l.length:Nat):Int))∧aa (V.beq (.str c.f4) (.str c.f4)&&true) ((∃MJ:List Int,bH ⟨(St.new (St.new (St.new Go.Ev.start 0 (.cells 18 [] (ai (an.cells c) .leaf 0) true false)) 1 (.cells 3 [] (ai (af.cells (l.getD 0 default)) .leaf 0) true false)) 8 (.cells 2 [] (ai [.int .i64 (aK c.f3),.int .i64 (aK c.f4)] .leaf 0) true false)).heap,11⟩ [.slice 8 0 (2) (2) true 1] [ae (V.int .i64) 1 MJ]∧MJ.length≤1000∧((.i64:IntKind)=.i64∧aa (decide ((UF MJ)≠(0:Int))) (Q (.tuple [.ak,.int .i64 (UF MJ)]) ⟨(St.new (St.new (St.new Go.Ev.start 0 (.cells 18 [] (ai (an.cells c) .leaf 0) true false)) 1 (.cells 3 [] (ai (af.cells (l.getD 0 default)) .leaf 0) true false)) 8 (.cells 2 [] (ai [.int .i64 (aK c.f3),.int .i64 (aK c.f4)] .leaf 0) true false)).heap,11⟩) (aa (decide (c.f3=c.f4)) (Q (.tuple [.ak,.int .i64 (12:Int)]) ⟨(St.new (St.new (St.new Go.Ev.start 0 (.cells 18 [] (ai (an.cells c) .leaf 0) true false)) 1 (.cells 3 [] (ai (af.cells (l.getD 0 default)) .leaf 0) true false)) 8 (.cells 2 [] (ai [.int .i64 (aK c.f3),.int .i64 (aK c.f4)] .leaf 0) true false)).heap,11⟩) (A 0 [.box (an.cells c),.box (af.cells (l.getD 0 default)),.val (ae V.str 1 c.f7),.val (.int .i64 (((c.f7.length:Nat):Int))),.val (.int .i64 (0:Int))]))))) False)):=by kernel_rfl
theorem ac0 [Env] (A:Nat→List SV→Prop) (Q:V→St→Prop) (c:an) (t:af) (m i:Int):WL Tryz.prog 311 Tryz.f311 iM 0 gg A Q 0 [.box (an.cells c),.box (af.cells t),.val (ae V.str 1 c.f7),.val (.int .i64 m),.val (.int .i64 i)]=
  (((.i64:IntKind)=.i64∧aa (decide (i<m)) (((0≤i∧i<((c.f7.length:Nat):Int))∧(∃(Sp:af) (aa8:List UInt8),[.agg (af.cells t),.str ((c.f7.getD i.toNat default))]=[af.enc Sp,.str aa8]∧Sp.f2.length≤1000∧aa (V.beq (.int .i64 t.f1) (.int .i64 t.f1)&&true) (((.i64:IntKind)=.i64∧aa (decide ((aB Sp aa8)<t.f1)) (Q (.tuple [.ak,.int .i64 (10:Int)]) ⟨(St.new (St.new Go.Ev.start 0 (.cells 18 [] (ai (an.cells c) .leaf 0) false false)) 1 (.cells 3 [] (ai (af.cells t) .leaf 0) false false)).heap,16⟩) ((∃aa9:Nat→List UInt8,(fun i=>V.str (c.f7.getD i default))=(fun i=>V.str (aa9 i))∧c.f7.length≤1000000∧((.i64:IntKind)=.i64∧aa (decide ((ct ((c.f7.getD i.toNat default)) aa9 c.f7.length)≠i)) (Q (.tuple [.ak,.int .i64 (10:Int)]) ⟨(St.new (St.new Go.Ev.start 0 (.cells 18 [] (ai (an.cells c) .leaf 0) false false)) 1 (.cells 3 [] (ai (af.cells t) .leaf 0) false false)).heap,16⟩) (A 0 [.box (an.cells c),.box (af.cells t),.val (ae V.str 1 c.f7),.val (.int .i64 m),.val (.int .i64 (IntKind.i64.wrap (i+(1:Int))))])))))) False))) (A 1 [.box (an.cells c),.box (af.cells t),.nest (.sl (2) (2) 3 true) [.val (.str c.f3),.val (.int .i64 t.f1),.val (.ak),.val (.str c.f4),.val (.int .i64 t.f1),.val (.ak)],.val (ae aj.enc 7 t.f2),.val (.int .i64 (((t.f2.length:Nat):Int))),.val (.int .i64 (0:Int))]))):=by kernel_rfl
theorem ac1 [Env] (A:Nat→List SV→Prop) (Q:V→St→Prop) (c:an) (t:af) (m i:Int):WL Tryz.prog 311 Tryz.f311 iM 0 gg A Q 1 [.box (an.cells c),.box (af.cells t),.nest (.sl (2) (2) 3 true) [.val (.str c.f3),.val (.int .i64 t.f1),.val (.ak),.val (.str c.f4),.val (.int .i64 t.f1),.val (.ak)],.val (ae aj.enc 7 t.f2),.val (.int .i64 m),.val (.int .i64 i)]=
  (((.i64:IntKind)=.i64∧aa (decide (i<m)) (((0≤i∧i<((t.f2.length:Nat):Int))∧(∃aba:Nat→List UInt8,(fun i=>V.str (c.f7.getD i default))=(fun i=>V.str (aba i))∧c.f7.length≤1000000∧A 2 [.box (an.cells c),.box (af.cells t),.nest (.sl (2) (2) 3 true) [.val (.str c.f3),.val (.int .i64 t.f1),.val (.ak),.val (.str c.f4),.val (.int .i64 t.f1),.val (.ak)],.val (.int .i64 i),.box (aj.cells (t.f2.getD i.toNat default)),.val (.bool (decide (0≤ct ((t.f2.getD i.toNat default).f0) aba c.f7.length))),.val (ae aj.enc 7 t.f2),.val (.int .i64 m),.val (.int .i64 i),.val (.int .i64 (2:Int)),.val (.int .i64 (0:Int))]))) (Q (.tuple [.slice 2 0 (2) (2) true 3,.int .i64 (0:Int)]) ⟨(St.new (St.new (St.new Go.Ev.start 0 (.cells 18 [] (ai (an.cells c) .leaf 0) false false)) 1 (.cells 3 [] (ai (af.cells t) .leaf 0) false false)) 2 (.cells 6 [] (ai [.str c.f3,.int .i64 t.f1,.ak,.str c.f4,.int .i64 t.f1,.ak] .leaf 0) false false)).heap,3⟩))):=by kernel_rfl
theorem ac2 [Env] (A:Nat→List SV→Prop) (Q:V→St→Prop) (c:an) (t:af) (m i:Int) (a b:Nat) (f g:Nat→V):WL Tryz.prog 311 Tryz.f311 iM 0 gg A Q 1 [.box (an.cells c),.box (af.cells t),.nest (.sl (2) (2) 3 true) [.val (.str c.f3),.val (.int .i64 t.f1),.row a f 7,.val (.str c.f4),.val (.int .i64 t.f1),.row b g 7],.val (ae aj.enc 7 t.f2),.val (.int .i64 m),.val (.int .i64 i)]=
  (((.i64:IntKind)=.i64∧aa (decide (i<m)) (((0≤i∧i<((t.f2.length:Nat):Int))∧(∃abb:Nat→List UInt8,(fun i=>V.str (c.f7.getD i default))=(fun i=>V.str (abb i))∧c.f7.length≤1000000∧((a=a∧7=7)∧((b=b∧7=7)∧A 2 [.box (an.cells c),.box (af.cells t),.nest (.sl (2) (2) 3 true) [.val (.str c.f3),.val (.int .i64 t.f1),.row a f 7,.val (.str c.f4),.val (.int .i64 t.f1),.row b g 7],.val (.int .i64 i),.box (aj.cells (t.f2.getD i.toNat default)),.val (.bool (decide (0≤ct ((t.f2.getD i.toNat default).f0) abb c.f7.length))),.val (ae aj.enc 7 t.f2),.val (.int .i64 m),.val (.int .i64 i),.val (.int .i64 (2:Int)),.val (.int .i64 (0:Int))]))))) (Q (.tuple [.slice 2 0 (2) (2) true 3,.int .i64 (0:Int)]) ⟨(St.new (St.new (St.new (St.new (St.new Go.Ev.start 0 (.cells 18 [] (ai (an.cells c) .leaf 0) false false)) 1 (.cells 3 [] (ai (af.cells t) .leaf 0) false false)) 2 (.cells 6 [] (ai [.str c.f3,.int .i64 t.f1,.own 3 a 7,.str c.f4,.int .i64 t.f1,.own 4 b 7] .leaf 0) false false)) 3 (.row a f 7 false)) 4 (.row b g 7 false)).heap,5⟩))):=by kernel_rfl
abbrev Sq [Env] (A:Nat→List SV→Prop) (Q:V→St→Prop) (c:an) (t:af) (x:aj) (u m i:Int):Prop:=
 (((1:Nat)=1∧(1:Nat)=1∧1*7=1*7)∧A 2 [.box (an.cells c),.box (af.cells t),.nest (.sl (2) (2) 3 true) [.val (.str c.f3),.val (.int .i64 t.f1),.row 1 (fun _=>.agg (aj.cells x)) 7,.val (.str c.f4),.val (.int .i64 t.f1),.val (.ak)],.val (.int .i64 u),.box (aj.cells x),.val (.bool false),.val (ae aj.enc 7 t.f2),.val (.int .i64 m),.val (.int .i64 i),.val (.int .i64 (2:Int)),.val (.int .i64 (1:Int))])
abbrev Sr [Env] (A:Nat→List SV→Prop) (Q:V→St→Prop) (c:an) (t:af) (x:aj) (u m i:Int):Prop:=
 (((1:Nat)=1∧(1:Nat)=1∧1*7=1*7)∧A 2 [.box (an.cells c),.box (af.cells t),.nest (.sl (2) (2) 3 true) [.val (.str c.f3),.val (.int .i64 t.f1),.row 1 (fun _=>.agg (aj.cells x)) 7,.val (.str c.f4),.val (.int .i64 t.f1),.val (.ak)],.val (.int .i64 u),.box (aj.cells x),.val (.bool true),.val (ae aj.enc 7 t.f2),.val (.int .i64 m),.val (.int .i64 i),.val (.int .i64 (2:Int)),.val (.int .i64 (1:Int))])
theorem WK [Env] (A:Nat→List SV→Prop) (Q:V→St→Prop) (c:an) (t:af) (x:aj) (u m i:Int):WL Tryz.prog 311 Tryz.f311 iM 0 gg A Q 2 [.box (an.cells c),.box (af.cells t),.nest (.sl (2) (2) 3 true) [.val (.str c.f3),.val (.int .i64 t.f1),.val (.ak),.val (.str c.f4),.val (.int .i64 t.f1),.val (.ak)],.val (.int .i64 u),.box (aj.cells x),.val (.bool true),.val (ae aj.enc 7 t.f2),.val (.int .i64 m),.val (.int .i64 i),.val (.int .i64 (2:Int)),.val (.int .i64 (0:Int))]=
  (((.i64:IntKind)=.i64∧((.i64:IntKind)=.i64∧aa (decide (u<t.f1)) ((Sr A Q c t x u m i)) (((.i64:IntKind)=.i64∧aa ((true==true)) ((Sr A Q c t x u m i)) (A 2 [.box (an.cells c),.box (af.cells t),.nest (.sl (2) (2) 3 true) [.val (.str c.f3),.val (.int .i64 t.f1),.val (.ak),.val (.str c.f4),.val (.int .i64 t.f1),.val (.ak)],.val (.int .i64 u),.box (aj.cells x),.val (.bool true),.val (ae aj.enc 7 t.f2),.val (.int .i64 m),.val (.int .i64 i),.val (.int .i64 (2:Int)),.val (.int .i64 (1:Int))])))))):=by kernel_rfl
theorem WM [Env] (A:Nat→List SV→Prop) (Q:V→St→Prop) (c:an) (t:af) (x:aj) (u m i:Int):WL Tryz.prog 311 Tryz.f311 iM 0 gg A Q 2 [.box (an.cells c),.box (af.cells t),.nest (.sl (2) (2) 3 true) [.val (.str c.f3),.val (.int .i64 t.f1),.val (.ak),.val (.str c.f4),.val (.int .i64 t.f1),.val (.ak)],.val (.int .i64 u),.box (aj.cells x),.val (.bool false),.val (ae aj.enc 7 t.f2),.val (.int .i64 m),.val (.int .i64 i),.val (.int .i64 (2:Int)),.val (.int .i64 (0:Int))]=
  (((.i64:IntKind)=.i64∧((.i64:IntKind)=.i64∧aa (decide (u<t.f1)) ((Sq A Q c t x u m i)) (((.i64:IntKind)=.i64∧aa ((false==true)) ((Sq A Q c t x u m i)) (A 2 [.box (an.cells c),.box (af.cells t),.nest (.sl (2) (2) 3 true) [.val (.str c.f3),.val (.int .i64 t.f1),.val (.ak),.val (.str c.f4),.val (.int .i64 t.f1),.val (.ak)],.val (.int .i64 u),.box (aj.cells x),.val (.bool false),.val (ae aj.enc 7 t.f2),.val (.int .i64 m),.val (.int .i64 i),.val (.int .i64 (2:Int)),.val (.int .i64 (1:Int))])))))):=by kernel_rfl
abbrev Ss [Env] (A:Nat→List SV→Prop) (Q:V→St→Prop) (c:an) (t:af) (x:aj) (u m i:Int) (a:Nat) (f:Nat→V):Prop:=
 ((a=a∧7=7)∧(((1:Nat)=1∧(1:Nat)=1∧1*7=1*7)∧A 2 [.box (an.cells c),.box (af.cells t),.nest (.sl (2) (2) 3 true) [.val (.str c.f3),.val (.int .i64 t.f1),.row a f 7,.val (.str c.f4),.val (.int .i64 t.f1),.row 1 (fun _=>.agg (aj.cells x)) 7],.val (.int .i64 u),.box (aj.cells x),.val (.bool false),.val (ae aj.enc 7 t.f2),.val (.int .i64 m),.val (.int .i64 i),.val (.int .i64 (2:Int)),.val (.int .i64 (2:Int))]))
abbrev Su [Env] (A:Nat→List SV→Prop) (Q:V→St→Prop) (c:an) (t:af) (x:aj) (u m i:Int) (a:Nat) (f:Nat→V):Prop:=
 ((a=a∧7=7)∧(((1:Nat)=1∧(1:Nat)=1∧1*7=1*7)∧A 2 [.box (an.cells c),.box (af.cells t),.nest (.sl (2) (2) 3 true) [.val (.str c.f3),.val (.int .i64 t.f1),.row a f 7,.val (.str c.f4),.val (.int .i64 t.f1),.row 1 (fun _=>.agg (aj.cells x)) 7],.val (.int .i64 u),.box (aj.cells x),.val (.bool true),.val (ae aj.enc 7 t.f2),.val (.int .i64 m),.val (.int .i64 i),.val (.int .i64 (2:Int)),.val (.int .i64 (2:Int))]))
theorem WN [Env] (A:Nat→List SV→Prop) (Q:V→St→Prop) (c:an) (t:af) (x:aj) (u m i:Int) (a:Nat) (f:Nat→V):WL Tryz.prog 311 Tryz.f311 iM 0 gg A Q 2 [.box (an.cells c),.box (af.cells t),.nest (.sl (2) (2) 3 true) [.val (.str c.f3),.val (.int .i64 t.f1),.row a f 7,.val (.str c.f4),.val (.int .i64 t.f1),.val (.ak)],.val (.int .i64 u),.box (aj.cells x),.val (.bool true),.val (ae aj.enc 7 t.f2),.val (.int .i64 m),.val (.int .i64 i),.val (.int .i64 (2:Int)),.val (.int .i64 (1:Int))]=
  (((.i64:IntKind)=.i64∧((.i64:IntKind)=.i64∧aa (decide (u<t.f1)) ((Su A Q c t x u m i a f)) (((.i64:IntKind)=.i64∧aa ((true==false)) ((Su A Q c t x u m i a f)) (((a=a∧7=7)∧A 2 [.box (an.cells c),.box (af.cells t),.nest (.sl (2) (2) 3 true) [.val (.str c.f3),.val (.int .i64 t.f1),.row a f 7,.val (.str c.f4),.val (.int .i64 t.f1),.val (.ak)],.val (.int .i64 u),.box (aj.cells x),.val (.bool true),.val (ae aj.enc 7 t.f2),.val (.int .i64 m),.val (.int .i64 i),.val (.int .i64 (2:Int)),.val (.int .i64 (2:Int))]))))))):=by kernel_rfl
theorem WO [Env] (A:Nat→List SV→Prop) (Q:V→St→Prop) (c:an) (t:af) (x:aj) (u m i:Int) (a:Nat) (f:Nat→V):WL Tryz.prog 311 Tryz.f311 iM 0 gg A Q 2 [.box (an.cells c),.box (af.cells t),.nest (.sl (2) (2) 3 true) [.val (.str c.f3),.val (.int .i64 t.f1),.row a f 7,.val (.str c.f4),.val (.int .i64 t.f1),.val (.ak)],.val (.int .i64 u),.box (aj.cells x),.val (.bool false),.val (ae aj.enc 7 t.f2),.val (.int .i64 m),.val (.int .i64 i),.val (.int .i64 (2:Int)),.val (.int .i64 (1:Int))]=
  (((.i64:IntKind)=.i64∧((.i64:IntKind)=.i64∧aa (decide (u<t.f1)) ((Ss A Q c t x u m i a f)) (((.i64:IntKind)=.i64∧aa ((false==false)) ((Ss A Q c t x u m i a f)) (((a=a∧7=7)∧A 2 [.box (an.cells c),.box (af.cells t),.nest (.sl (2) (2) 3 true) [.val (.str c.f3),.val (.int .i64 t.f1),.row a f 7,.val (.str c.f4),.val (.int .i64 t.f1),.val (.ak)],.val (.int .i64 u),.box (aj.cells x),.val (.bool false),.val (ae aj.enc 7 t.f2),.val (.int .i64 m),.val (.int .i64 i),.val (.int .i64 (2:Int)),.val (.int .i64 (2:Int))]))))))):=by kernel_rfl
abbrev Sv [Env] (A:Nat→List SV→Prop) (Q:V→St→Prop) (c:an) (t:af) (x:aj) (u m i:Int) (a b:Nat) (f g:Nat→V):Prop:=
 ((a=a∧(a+1)*72≤1099511627776)∧(((a+1)=(a+1)∧7=7)∧((b=b∧7=7)∧A 2 [.box (an.cells c),.box (af.cells t),.nest (.sl (2) (2) 3 true) [.val (.str c.f3),.val (.int .i64 t.f1),.row (a+1) (dL a f (fun _=>.agg (aj.cells x))) 7,.val (.str c.f4),.val (.int .i64 t.f1),.row b g 7],.val (.int .i64 u),.box (aj.cells x),.val (.bool false),.val (ae aj.enc 7 t.f2),.val (.int .i64 m),.val (.int .i64 i),.val (.int .i64 (2:Int)),.val (.int .i64 (1:Int))])))
abbrev Sw [Env] (A:Nat→List SV→Prop) (Q:V→St→Prop) (c:an) (t:af) (x:aj) (u m i:Int) (a b:Nat) (f g:Nat→V):Prop:=
 ((b=b∧(b+1)*72≤1099511627776)∧((a=a∧7=7)∧(((b+1)=(b+1)∧7=7)∧A 2 [.box (an.cells c),.box (af.cells t),.nest (.sl (2) (2) 3 true) [.val (.str c.f3),.val (.int .i64 t.f1),.row a f 7,.val (.str c.f4),.val (.int .i64 t.f1),.row (b+1) (dL b g (fun _=>.agg (aj.cells x))) 7],.val (.int .i64 u),.box (aj.cells x),.val (.bool false),.val (ae aj.enc 7 t.f2),.val (.int .i64 m),.val (.int .i64 i),.val (.int .i64 (2:Int)),.val (.int .i64 (2:Int))])))
abbrev Sx [Env] (A:Nat→List SV→Prop) (Q:V→St→Prop) (c:an) (t:af) (x:aj) (u m i:Int) (a b:Nat) (f g:Nat→V):Prop:=
 ((a=a∧(a+1)*72≤1099511627776)∧(((a+1)=(a+1)∧7=7)∧((b=b∧7=7)∧A 2 [.box (an.cells c),.box (af.cells t),.nest (.sl (2) (2) 3 true) [.val (.str c.f3),.val (.int .i64 t.f1),.row (a+1) (dL a f (fun _=>.agg (aj.cells x))) 7,.val (.str c.f4),.val (.int .i64 t.f1),.row b g 7],.val (.int .i64 u),.box (aj.cells x),.val (.bool true),.val (ae aj.enc 7 t.f2),.val (.int .i64 m),.val (.int .i64 i),.val (.int .i64 (2:Int)),.val (.int .i64 (1:Int))])))
abbrev Sy [Env] (A:Nat→List SV→Prop) (Q:V→St→Prop) (c:an) (t:af) (x:aj) (u m i:Int) (a b:Nat) (f g:Nat→V):Prop:=
 ((b=b∧(b+1)*72≤1099511627776)∧((a=a∧7=7)∧(((b+1)=(b+1)∧7=7)∧A 2 [.box (an.cells c),.box (af.cells t),.nest (.sl (2) (2) 3 true) [.val (.str c.f3),.val (.int .i64 t.f1),.row a f 7,.val (.str c.f4),.val (.int .i64 t.f1),.row (b+1) (dL b g (fun _=>.agg (aj.cells x))) 7],.val (.int .i64 u),.box (aj.cells x),.val (.bool true),.val (ae aj.enc 7 t.f2),.val (.int .i64 m),.val (.int .i64 i),.val (.int .i64 (2:Int)),.val (.int .i64 (2:Int))])))
abbrev MK [Env] (A:Nat→List SV→Prop) (Q:V→St→Prop) (c:an) (t:af) (x:aj) (u m i:Int) (a b:Nat) (f g:Nat→V) (p0:Int):Prop:=
 ((a=a∧7=7)∧((b=b∧7=7)∧A 2 [.box (an.cells c),.box (af.cells t),.nest (.sl (2) (2) 3 true) [.val (.str c.f3),.val (.int .i64 t.f1),.row a f 7,.val (.str c.f4),.val (.int .i64 t.f1),.row b g 7],.val (.int .i64 u),.box (aj.cells x),.val (.bool false),.val (ae aj.enc 7 t.f2),.val (.int .i64 m),.val (.int .i64 i),.val (.int .i64 (2:Int)),.val (.int .i64 (p0:Int))]))
abbrev ML [Env] (A:Nat→List SV→Prop) (Q:V→St→Prop) (c:an) (t:af) (x:aj) (u m i:Int) (a b:Nat) (f g:Nat→V) (p0:Int):Prop:=
 ((a=a∧7=7)∧((b=b∧7=7)∧A 2 [.box (an.cells c),.box (af.cells t),.nest (.sl (2) (2) 3 true) [.val (.str c.f3),.val (.int .i64 t.f1),.row a f 7,.val (.str c.f4),.val (.int .i64 t.f1),.row b g 7],.val (.int .i64 u),.box (aj.cells x),.val (.bool true),.val (ae aj.enc 7 t.f2),.val (.int .i64 m),.val (.int .i64 i),.val (.int .i64 (2:Int)),.val (.int .i64 (p0:Int))]))
abbrev MM [Env] (A:Nat→List SV→Prop) (Q:V→St→Prop) (c:an) (t:af) (x:aj) (u m i:Int) (a b:Nat) (f g:Nat→V):Prop:=
 ((.i64:IntKind)=.i64∧((a=a∧7=7)∧((b=b∧7=7)∧A 1 [.box (an.cells c),.box (af.cells t),.nest (.sl (2) (2) 3 true) [.val (.str c.f3),.val (.int .i64 t.f1),.row a f 7,.val (.str c.f4),.val (.int .i64 t.f1),.row b g 7],.val (ae aj.enc 7 t.f2),.val (.int .i64 m),.val (.int .i64 (IntKind.i64.wrap (i+(1:Int))))])))
theorem WQ [Env] (A:Nat→List SV→Prop) (Q:V→St→Prop) (c:an) (t:af) (x:aj) (u m i:Int) (a b:Nat) (f g:Nat→V):WL Tryz.prog 311 Tryz.f311 iM 0 gg A Q 2 [.box (an.cells c),.box (af.cells t),.nest (.sl (2) (2) 3 true) [.val (.str c.f3),.val (.int .i64 t.f1),.row a f 7,.val (.str c.f4),.val (.int .i64 t.f1),.row b g 7],.val (.int .i64 u),.box (aj.cells x),.val (.bool true),.val (ae aj.enc 7 t.f2),.val (.int .i64 m),.val (.int .i64 i),.val (.int .i64 (2:Int)),.val (.int .i64 (0:Int))]=
  (((.i64:IntKind)=.i64∧((.i64:IntKind)=.i64∧aa (decide (u<t.f1)) ((Sx A Q c t x u m i a b f g)) (((.i64:IntKind)=.i64∧aa ((true==true)) ((Sx A Q c t x u m i a b f g)) ((ML A Q c t x u m i a b f g 1))))))):=by kernel_rfl
theorem WR [Env] (A:Nat→List SV→Prop) (Q:V→St→Prop) (c:an) (t:af) (x:aj) (u m i:Int) (a b:Nat) (f g:Nat→V):WL Tryz.prog 311 Tryz.f311 iM 0 gg A Q 2 [.box (an.cells c),.box (af.cells t),.nest (.sl (2) (2) 3 true) [.val (.str c.f3),.val (.int .i64 t.f1),.row a f 7,.val (.str c.f4),.val (.int .i64 t.f1),.row b g 7],.val (.int .i64 u),.box (aj.cells x),.val (.bool false),.val (ae aj.enc 7 t.f2),.val (.int .i64 m),.val (.int .i64 i),.val (.int .i64 (2:Int)),.val (.int .i64 (0:Int))]=
  (((.i64:IntKind)=.i64∧((.i64:IntKind)=.i64∧aa (decide (u<t.f1)) ((Sv A Q c t x u m i a b f g)) (((.i64:IntKind)=.i64∧aa ((false==true)) ((Sv A Q c t x u m i a b f g)) ((MK A Q c t x u m i a b f g 1))))))):=by kernel_rfl
theorem WS [Env] (A:Nat→List SV→Prop) (Q:V→St→Prop) (c:an) (t:af) (x:aj) (u m i:Int) (a b:Nat) (f g:Nat→V):WL Tryz.prog 311 Tryz.f311 iM 0 gg A Q 2 [.box (an.cells c),.box (af.cells t),.nest (.sl (2) (2) 3 true) [.val (.str c.f3),.val (.int .i64 t.f1),.row a f 7,.val (.str c.f4),.val (.int .i64 t.f1),.row b g 7],.val (.int .i64 u),.box (aj.cells x),.val (.bool true),.val (ae aj.enc 7 t.f2),.val (.int .i64 m),.val (.int .i64 i),.val (.int .i64 (2:Int)),.val (.int .i64 (1:Int))]=
  (((.i64:IntKind)=.i64∧((.i64:IntKind)=.i64∧aa (decide (u<t.f1)) ((Sy A Q c t x u m i a b f g)) (((.i64:IntKind)=.i64∧aa ((true==false)) ((Sy A Q c t x u m i a b f g)) ((ML A Q c t x u m i a b f g 2))))))):=by kernel_rfl
theorem WT [Env] (A:Nat→List SV→Prop) (Q:V→St→Prop) (c:an) (t:af) (x:aj) (u m i:Int) (a b:Nat) (f g:Nat→V):WL Tryz.prog 311 Tryz.f311 iM 0 gg A Q 2 [.box (an.cells c),.box (af.cells t),.nest (.sl (2) (2) 3 true) [.val (.str c.f3),.val (.int .i64 t.f1),.row a f 7,.val (.str c.f4),.val (.int .i64 t.f1),.row b g 7],.val (.int .i64 u),.box (aj.cells x),.val (.bool false),.val (ae aj.enc 7 t.f2),.val (.int .i64 m),.val (.int .i64 i),.val (.int .i64 (2:Int)),.val (.int .i64 (1:Int))]=
  (((.i64:IntKind)=.i64∧((.i64:IntKind)=.i64∧aa (decide (u<t.f1)) ((Sw A Q c t x u m i a b f g)) (((.i64:IntKind)=.i64∧aa ((false==false)) ((Sw A Q c t x u m i a b f g)) ((MK A Q c t x u m i a b f g 2))))))):=by kernel_rfl
theorem WU [Env] (A:Nat→List SV→Prop) (Q:V→St→Prop) (c:an) (t:af) (x:aj) (u m i:Int) (a b:Nat) (f g:Nat→V):WL Tryz.prog 311 Tryz.f311 iM 0 gg A Q 2 [.box (an.cells c),.box (af.cells t),.nest (.sl (2) (2) 3 true) [.val (.str c.f3),.val (.int .i64 t.f1),.row a f 7,.val (.str c.f4),.val (.int .i64 t.f1),.row b g 7],.val (.int .i64 u),.box (aj.cells x),.val (.bool true),.val (ae aj.enc 7 t.f2),.val (.int .i64 m),.val (.int .i64 i),.val (.int .i64 (2:Int)),.val (.int .i64 (2:Int))]=
  ((MM A Q c t x u m i a b f g)):=by kernel_rfl
theorem WV [Env] (A:Nat→List SV→Prop) (Q:V→St→Prop) (c:an) (t:af) (x:aj) (u m i:Int) (a b:Nat) (f g:Nat→V):WL Tryz.prog 311 Tryz.f311 iM 0 gg A Q 2 [.box (an.cells c),.box (af.cells t),.nest (.sl (2) (2) 3 true) [.val (.str c.f3),.val (.int .i64 t.f1),.row a f 7,.val (.str c.f4),.val (.int .i64 t.f1),.row b g 7],.val (.int .i64 u),.box (aj.cells x),.val (.bool false),.val (ae aj.enc 7 t.f2),.val (.int .i64 m),.val (.int .i64 i),.val (.int .i64 (2:Int)),.val (.int .i64 (2:Int))]=
  ((MM A Q c t x u m i a b f g)):=by kernel_rfl
def abc [Env] (vs:List V) (σ:St) (k:ah):Prop:=
 ∃(c:an) (l:List af),bH σ vs [an.enc c,ae af.enc 3 l]∧(gL c∧c.f0=5∧c.f7.length≤1000000∧1≤l.length∧l.length≤16∧∀t∈l,e8 t∧bR t=0)∧(kE c (l.getD 0 default) (l.getD 1 default)=0→k (.tuple [.own σ.next (kT c (l.getD 0 default)).length 3,.int .i64 0]) ((void σ.next).new σ.next (.row (kT c (l.getD 0 default)).length (fun i=>af.enc ((kT c (l.getD 0 default)).getD i default)) 3 false)))∧(kE c (l.getD 0 default) (l.getD 1 default)≠0→k (.tuple [.ak,.int .i64 (kE c (l.getD 0 default) (l.getD 1 default))]) (void σ.next))
def zY [Env]:=kS 311 abc iM
end Go.Proofs.YtbajncpfmemdgaaGreatDoor
end
section
namespace Go.Proofs.YtbajncpfmemdgaaGreatDoor
open Go Go.Ev Go.IntWalk
theorem F300:bl Tryz.prog 300 Tryz.f300:=.of (by kernel_rfl) (by kernel_rfl)
theorem F303:bl Tryz.prog 303 Tryz.f303:=.of (by kernel_rfl) (by kernel_rfl)
theorem F306:bl Tryz.prog 306 Tryz.f306:=.of (by kernel_rfl) (by kernel_rfl)
theorem F314:bl Tryz.prog 314 Tryz.f314:=.of (by kernel_rfl) (by kernel_rfl)
section
variable [Env]
omit [Env] in
theorem yq {c:an} (h:c.f0=1) (t u:af):kE c t u=bR c.f9:=if_pos h
omit [Env] in
theorem Gi {c:an} (h:c.f0=1) (t:af):kT c t=[c.f9]:=if_pos h
omit [Env] in
theorem MN {c:an} (h:c.f0=2) (t u:af):kE c t u=k5 t c.f8:=by
 have h1:¬c.f0=1:=by omega
 unfold kE;rw[if_neg h1,if_pos h]
omit [Env] in
theorem Sz {c:an} (h:c.f0=2) (t:af):kT c t=[BA t c.f8]:=by
 have h1:¬c.f0=1:=by omega
 unfold kT;rw[if_neg h1,if_pos h]
omit [Env] in
theorem BK {c:an} (h:c.f0=3) (t u:af):kE c t u=Mt t c.f5:=by
 have h1:¬c.f0=1:=by omega
 have h2:¬c.f0=2:=by omega
 unfold kE;rw[if_neg h1,if_neg h2,if_pos h]
omit [Env] in
theorem SA {c:an} (h:c.f0=3) (t:af):kT c t=[w9 t c.f5]:=by
 have h1:¬c.f0=1:=by omega
 have h2:¬c.f0=2:=by omega
 unfold kT;rw[if_neg h1,if_neg h2,if_pos h]
omit [Env] in
theorem MO {c:an} (h:c.f0=4) (t u:af):kE c t u=rq t c.f5 c.f6:=by
 have h1:¬c.f0=1:=by omega
 have h2:¬c.f0=2:=by omega
 have h3:¬c.f0=3:=by omega
 unfold kE;rw[if_neg h1,if_neg h2,if_neg h3,if_pos h]
omit [Env] in
theorem SB {c:an} (h:c.f0=4) (t:af):kT c t=[wm t c.f5 c.f6]:=by
 have h1:¬c.f0=1:=by omega
 have h2:¬c.f0=2:=by omega
 have h3:¬c.f0=3:=by omega
 unfold kT;rw[if_neg h1,if_neg h2,if_neg h3,if_pos h]
omit [Env] in
theorem MP {c:an} (h:c.f0=5) (t u:af):kE c t u=k6 t c:=by
 have h1:¬c.f0=1:=by omega
 have h2:¬c.f0=2:=by omega
 have h3:¬c.f0=3:=by omega
 have h4:¬c.f0=4:=by omega
 unfold kE;rw[if_neg h1,if_neg h2,if_neg h3,if_neg h4,if_pos h]
omit [Env] in
theorem SC {c:an} (h:c.f0=5) (t:af):kT c t=yn t c:=by
 have h1:¬c.f0=1:=by omega
 have h2:¬c.f0=2:=by omega
 have h3:¬c.f0=3:=by omega
 have h4:¬c.f0=4:=by omega
 unfold kT;rw[if_neg h1,if_neg h2,if_neg h3,if_neg h4,if_pos h]
omit [Env] in
theorem abd {c:an} (h:c.f0=6) (t u:af):kE c t u=lW t u c:=by
 have h1:¬c.f0=1:=by omega
 have h2:¬c.f0=2:=by omega
 have h3:¬c.f0=3:=by omega
 have h4:¬c.f0=4:=by omega
 have h5:¬c.f0=5:=by omega
 unfold kE;rw[if_neg h1,if_neg h2,if_neg h3,if_neg h4,if_neg h5]
omit [Env] in
theorem SD {c:an} (h:c.f0=6) (t:af):kT c t=[FV t c]:=by
 have h1:¬c.f0=1:=by omega
 have h2:¬c.f0=2:=by omega
 have h3:¬c.f0=3:=by omega
 have h4:¬c.f0=4:=by omega
 have h5:¬c.f0=5:=by omega
 unfold kT;rw[if_neg h1,if_neg h2,if_neg h3,if_neg h4,if_neg h5]
structure xL (σ:St) (k:ah) (E:Int) (T:List af):Prop where
 ok:E=0→k (.tuple [.own σ.next T.length 3,.int .i64 0]) ((void σ.next).new σ.next (.row T.length (fun i=>af.enc (T.getD i default)) 3 false))
 bad:E≠0→k (.tuple [.ak,.int .i64 E]) (void σ.next)
variable {σ:St} {k:ah} {E:Int} {T:List af}
theorem xL.err (h:xL σ k E T) {e:Int} (he:E=e) (h0:e≠0) {τ:St}:bd (void σ.next) k (.tuple [.ak,.int .i64 e]) τ:=by
 subst he;exact bd.fZ (.tuple (.cons .ak (.cons (.int _ _) .nil))) (h.bad h0)
theorem xL.one (h:xL σ k E T) {t:af} (hT:T=[t]) {e:Int} (he:E=e) {b nx nx':Nat} {H:Trie bU}:(e=0→bd (void σ.next) k (.tuple [.own b 1 3,.int .i64 0]) ⟨(St.new Go.Ev.start b (.row 1 (fun i=>af.enc ([t].getD i default)) 3 false)).heap,nx⟩)∧
  (e≠0→bd (void σ.next) k (.tuple [.ak,.int .i64 e]) ⟨H,nx'⟩):=by
 subst he;subst hT
 refine⟨fun h0=>bd.pair (b:=b) (n:=1) (esz:=3) (g:=fun i=>af.enc ([t].getD i default)) (.own (f:=fun i=>af.enc ([t].getD i default)) (p:=false) ?_ fun i hi=>g8 (af.clean _)) (.int _ _) (h.ok h0),fun h0=>h.err rfl h0⟩
 show(St.new Go.Ev.start b _).heap.get b=_
 rw[iq,if_pos rfl]
theorem fq {τ:St} {s:List UInt8} {q e:Int} {b n:Nat} {f:Nat→V} {p:Bool} {L:List aj} (hb:τ.heap.get b=some (.row n f 7 p)) (hr:bu n f L):bH τ [.agg [.str s,.int .i64 q,.own b n 7],.int .i64 e] [af.enc ⟨s,q,L⟩,.int .i64 e]:=by
 obtain⟨rfl,h⟩:=hr
 refine .cons (.agg (.cons (.str _) (.cons (.int _ _) (.cons (.own (g:=fun i=>aj.enc (L.getD i default)) hb (fun i hi=>?_) fun i hi=>rfl) .nil)))) (.cons (.int _ _) .nil)
 rw[h i hi];exact g8 (aj.clean _)
omit [Env] in
theorem bu.of (l:List aj):bu l.length (fun i=>aj.enc (l.getD i default)) l:=⟨rfl,fun _ _=>rfl⟩
omit [Env] in
theorem cB {b:Bool} {A B:Prop} (hb:b=true) (h:A):aa b A B:=aa.mk (fun _=>h) fun h'=>by rw[hb] at h';cases h'
variable [aZ] {vs:List V}
omit [Env] [aZ] in
theorem e8.ga {t:af} (h:e8 t):ga t:=fun c hc=>(h c hc).1
theorem WW (h:aaW vs σ k):ag Tryz.prog 300 vs k σ:=by
 obtain⟨c,l,hf,⟨hc,h0,_,_,_,ht⟩,hk,eV⟩:=h
 have ho:xL σ k _ _:=⟨hk,eV⟩
 refine ag.nE hf (F300.ck (live:=Kr) (call:=Dp) (fun h=>Gd h) (by kernel_rfl) ?_)
 rw[ahP]
 refine⟨c.f9,rfl,e8.ga hc.2,cB (by simp [V.beq,V.fJ,af.cells,ae]) ⟨c.f9,bR c.f9,.cons (.clean c.f9.aJ) (.cons (.int _ _) .nil),?_⟩⟩
 exact ho.one (Gi h0 _) (yq h0 _ _)
theorem Gj:∀ {f:FuncId} {vs:List V} {σ:St} {k:ah},zX f vs σ k→ag Tryz.prog f vs k σ:=fun h=>aH WW Gd h
omit [Env] [aZ] in
theorem zZ {t:af} {c:aj} (h:bO c≠0):k5 t c=bO c:=if_pos h
omit [Env] [aZ] in
theorem z3 {t:af} {c:aj} (h:¬bO c≠0) (h2:0≤aB t c.f0):k5 t c=12:=(if_neg h).trans (if_pos h2)
omit [Env] [aZ] in
theorem z4 {t:af} {c:aj} (h:¬bO c≠0) (h2:¬ 0≤aB t c.f0) (h3:8≤t.f2.length):k5 t c=2:=((if_neg h).trans (if_neg h2)).trans (if_pos h3)
omit [Env] [aZ] in
theorem Pe {t:af} {c:aj} (h:¬bO c≠0) (h2:¬ 0≤aB t c.f0) (h3:¬ 8≤t.f2.length) (h4:c.f2=false∧c.f3.f0=0):k5 t c=11:=(((if_neg h).trans (if_neg h2)).trans (if_neg h3)).trans (if_pos h4)
omit [Env] [aZ] in
theorem z5 {t:af} {c:aj} (h:¬bO c≠0) (h2:¬ 0≤aB t c.f0) (h3:¬ 8≤t.f2.length) (h4:¬(c.f2=false∧c.f3.f0=0)):k5 t c=bO c:=
 ((((if_neg h).trans (if_neg h2)).trans (if_neg h3)).trans (if_neg h4)).trans (Decidable.not_not.1 h).symm
set_option maxRecDepth 100000 in
theorem WX (h:aa2 vs σ k):ag Tryz.prog 303 vs k σ:=by
 obtain⟨c,l,hf,⟨hc,h0,_,hl,_,ht⟩,hk,eV⟩:=h
 have ho:xL σ k _ _:=⟨hk,eV⟩
 obtain⟨ou,uN⟩:=ht _ (bn (show 0<l.length by omega))
 have hlen:0<(l.getD 0 default).f2.length∧(l.getD 0 default).f2.length≤8:=by have:=(oo uN).1;obtain⟨_,h1,_⟩:=this;omega
 refine ag.nE hf (F303.ck (live:=BI) (call:=zX) (fun h=>Gj h) (by kernel_rfl) ?_)
 have hT:=Sz h0 (l.getD 0 default)
 have hE:=MN h0 (l.getD 0 default) (l.getD 1 default)
 rw[hT,hE] at ho
 obtain⟨f0,f1,f2,f3,f4,f5,f6,f7,⟨g0,g1,g2,g3⟩,f9⟩:=c
 have cE:mW ⟨g0,g1,g2,g3⟩:=hc.1.1
 cases g2 with
 | true=>
  refine(acY _ _ ⟨f0,f1,f2,f3,f4,f5,f6,f7,⟨g0,g1,true,g3⟩,f9⟩ l).mpr ⟨⟨by omega,by omega⟩,⟨g0,g1,true,g3⟩,rfl,cE,rfl,aq (fun a1=>⟨_,rfl,⟨by omega,by omega⟩,cB (by simp [V.beq,V.fJ]) ⟨⟨rfl,by omega⟩,_,_,fq (p:=false) (by rfl) ((bu.of _).push ⟨g0,g1,true,g3⟩),ho.one rfl (zZ a1)⟩⟩) fun a1=>?_⟩
  refine⟨_,_,rfl,by show(l.getD 0 default).f2.length≤1000;omega,rfl,aq (fun a2=>⟨_,rfl,⟨by omega,by omega⟩,cB (by simp [V.beq,V.fJ]) ⟨⟨rfl,by omega⟩,_,_,fq (p:=false) (by rfl) ((bu.of _).push ⟨g0,g1,true,g3⟩),ho.one rfl (z3 a1 a2)⟩⟩) fun a2=>⟨rfl,aq (fun a3=>⟨_,rfl,⟨by omega,by omega⟩,cB (by simp [V.beq,V.fJ]) ⟨⟨rfl,by omega⟩,_,_,fq (p:=false) (by rfl) ((bu.of _).push ⟨g0,g1,true,g3⟩),ho.one rfl (z4 a1 a2 (by omega))⟩⟩) fun a3=>?_⟩⟩
  exact⟨_,rfl,⟨by omega,by omega⟩,cB (by simp [V.beq,V.fJ]) ⟨⟨rfl,by omega⟩,_,_,fq (p:=false) (by rfl) ((bu.of _).push ⟨g0,g1,true,g3⟩),ho.one rfl (z5 a1 a2 (by omega) fun h=>by cases h.1)⟩⟩
 | false=>
  refine(acZ _ _ ⟨f0,f1,f2,f3,f4,f5,f6,f7,⟨g0,g1,false,g3⟩,f9⟩ l).mpr ⟨⟨by omega,by omega⟩,⟨g0,g1,false,g3⟩,rfl,cE,rfl,aq (fun a1=>⟨_,rfl,⟨by omega,by omega⟩,cB (by simp [V.beq,V.fJ]) ⟨⟨rfl,by omega⟩,_,_,fq (p:=false) (by rfl) ((bu.of _).push ⟨g0,g1,false,g3⟩),ho.one rfl (zZ a1)⟩⟩) fun a1=>?_⟩
  refine⟨_,_,rfl,by show(l.getD 0 default).f2.length≤1000;omega,rfl,aq (fun a2=>⟨_,rfl,⟨by omega,by omega⟩,cB (by simp [V.beq,V.fJ]) ⟨⟨rfl,by omega⟩,_,_,fq (p:=false) (by rfl) ((bu.of _).push ⟨g0,g1,false,g3⟩),ho.one rfl (z3 a1 a2)⟩⟩) fun a2=>⟨rfl,aq (fun a3=>⟨_,rfl,⟨by omega,by omega⟩,cB (by simp [V.beq,V.fJ]) ⟨⟨rfl,by omega⟩,_,_,fq (p:=false) (by rfl) ((bu.of _).push ⟨g0,g1,false,g3⟩),ho.one rfl (z4 a1 a2 (by omega))⟩⟩) fun a3=>?_⟩⟩
  refine⟨rfl,aq (fun a4=>?_) fun a4=>?_⟩
  ·exact⟨_,rfl,⟨by omega,by omega⟩,cB (by simp [V.beq,V.fJ]) ⟨⟨rfl,by omega⟩,_,_,fq (p:=false) (by rfl) ((bu.of _).push ⟨g0,g1,false,g3⟩),ho.one rfl (Pe a1 a2 (by omega) ⟨rfl,a4⟩)⟩⟩
  ·exact⟨_,rfl,⟨by omega,by omega⟩,cB (by simp [V.beq,V.fJ]) ⟨⟨rfl,by omega⟩,_,_,fq (p:=false) (by rfl) ((bu.of _).push ⟨g0,g1,false,g3⟩),ho.one rfl (z5 a1 a2 (by omega) fun h=>a4 h.2)⟩⟩
theorem Gk:∀ {f:FuncId} {vs:List V} {σ:St} {k:ah},Dq f vs σ k→ag Tryz.prog f vs k σ:=fun h=>aH WX Gj h
omit [Env] [aZ] in
theorem qj (t:af) (s:List UInt8): -1≤aB t s∧aB t s<t.f2.length:=by
 rcases lx s (fun i=>(t.f2.getD i default).f0) t.f2.length with ⟨h,_⟩ | ⟨i,h,hi,_⟩
 ·have:aB t s= -1:=h
  omega
 ·have:aB t s=i:=h
  omega
theorem WY (h:aa5 vs σ k):ag Tryz.prog 306 vs k σ:=by
 obtain⟨c,l,hf,⟨hc,h0,_,hl,_,ht⟩,hk,eV⟩:=h
 have ho:xL σ k _ _:=⟨hk,eV⟩
 obtain⟨ou,uN⟩:=ht _ (bn (show 0<l.length by omega))
 have hlen:0<(l.getD 0 default).f2.length∧(l.getD 0 default).f2.length≤8∧1≤(l.getD 0 default).f1:=by have:=(oo uN).1;obtain⟨_,h1,h2,_⟩:=this;omega
 refine ag.nE hf (F306.ck (live:=Ks) (call:=Dq) (fun h=>Gk h) (by kernel_rfl) ?_)
 rw[SA h0 (l.getD 0 default),BK h0 (l.getD 0 default) (l.getD 1 default)] at ho
 have hca:=qj (l.getD 0 default) c.f5
 rw[ahQ]
 refine⟨⟨by omega,by omega⟩,_,_,rfl,by show(l.getD 0 default).f2.length≤1000;omega,rfl,aq (fun a1=>ho.err (if_pos a1) (by decide)) fun a1=>?_⟩
 obtain⟨i,hi⟩:∃i:Nat,aB (l.getD 0 default) c.f5=i:=⟨(aB (l.getD 0 default) c.f5).toNat,by omega⟩
 refine⟨_,rfl,⟨by omega,by omega⟩,(l.getD 0 default).f2,i,⟨rfl,hi,?_⟩,by rfl,⟨by omega,by omega,by omega⟩,fun n f hr=>⟨_,_,fq (p:=false) (by rfl) hr,ho.one ?_ (if_neg a1)⟩⟩
 ·rw[hi];exact i64_in _ (by omega)
 ·have:(fun j:Nat=>decide (j≠i))=fun j:Nat=>decide ((j:Int)≠aB (l.getD 0 default) c.f5):=funext fun j=>by rw[hi];exact decide_eq_decide.2 ⟨fun h e=>h (by omega),fun h e=>h (by omega)⟩
  rw[this];rfl
theorem Gl:∀ {f:FuncId} {vs:List V} {σ:St} {k:ah},Dr f vs σ k→ag Tryz.prog f vs k σ:=fun h=>aH WY Gk h
theorem WZ (h:aa7 vs σ k):ag Tryz.prog 314 vs k σ:=by
 obtain⟨c,l,hf,⟨hc,h0,_,hl,_,ht⟩,hk,eV⟩:=h
 have ho:xL σ k _ _:=⟨hk,eV⟩
 obtain⟨ou,uN⟩:=ht _ (bn (show 0<l.length by omega))
 have hlen:0<(l.getD 0 default).f2.length∧(l.getD 0 default).f2.length≤8:=by have:=(oo uN).1;obtain⟨_,h1,_⟩:=this;omega
 refine ag.nE hf (F314.ck (live:=Kt) (call:=Dr) (fun h=>Gl h) (by kernel_rfl) ?_)
 rw[SD h0 (l.getD 0 default),abd h0 (l.getD 0 default) (l.getD 1 default)] at ho
 rw[ahR];unfold Sn Sm
 have e12:c.f1=c.f2→lW (l.getD 0 default) (l.getD 1 default) c=12:=fun h=>if_pos h
 have en:¬c.f1=c.f2→aK c.f3≠0→lW (l.getD 0 default) (l.getD 1 default) c=aK c.f3:=fun h1 h2=>(if_neg h1).trans (if_pos h2)
 have Pf:¬c.f1=c.f2→aK c.f3=0→((l.getD 0 default).f1≠(l.getD 1 default).f1∨(l.getD 0 default).f2≠(l.getD 1 default).f2)→lW (l.getD 0 default) (l.getD 1 default) c=11:=fun h1 h2 h3=>((if_neg h1).trans (if_neg fun h=>h h2)).trans (if_pos h3)
 have e0:¬c.f1=c.f2→aK c.f3=0→¬((l.getD 0 default).f1≠(l.getD 1 default).f1∨(l.getD 0 default).f2≠(l.getD 1 default).f2)→lW (l.getD 0 default) (l.getD 1 default) c=aK c.f3:=fun h1 h2 h3=>(((if_neg h1).trans (if_neg fun h=>h h2)).trans (if_neg h3)).trans h2.symm
 refine aq (fun a1=>ho.err (e12 a1) (by decide)) fun a1=>⟨⟨by omega,by omega⟩,rfl,aq (fun a2=>⟨⟨by omega,by omega⟩,rfl,aq (fun a3=>?_) fun a3=>⟨⟨by omega,by omega⟩,_,_,rfl,by omega,fun b hb=>aa.mk (fun a4=>?_) fun a4=>?_⟩⟩) fun a2=>?_⟩
 ·exact⟨_,rfl,⟨by omega,by omega⟩,cB (by simp [V.beq]) ⟨_,_,fq (p:=false) (by rfl) (bu.of _),ho.one rfl (Pf a1 a2 (.inl a3))⟩⟩
 ·exact⟨_,rfl,⟨by omega,by omega⟩,cB (by simp [V.beq]) ⟨_,_,fq (p:=false) (by rfl) (bu.of _),ho.one rfl (Pf a1 a2 (.inr fun e=>by rw[hb.2 e] at a4;cases a4))⟩⟩
 ·exact⟨_,rfl,⟨by omega,by omega⟩,cB (by simp [V.beq]) ⟨_,_,fq (p:=false) (by rfl) (bu.of _),ho.one rfl (e0 a1 a2 fun h=>by
   rcases h with h | h
   ·exact a3 h
   ·exact h (hb.1 (by simpa using a4)))⟩⟩
 ·exact⟨_,rfl,⟨by omega,by omega⟩,cB (by simp [V.beq]) ⟨_,_,fq (p:=false) (by rfl) (bu.of _),ho.one rfl (en a1 a2)⟩⟩
theorem Gm:∀ {f:FuncId} {vs:List V} {σ:St} {k:ah},iM f vs σ k→ag Tryz.prog f vs k σ:=fun h=>aH WZ Gl h
end
end Go.Proofs.YtbajncpfmemdgaaGreatDoor
end
section
namespace Go.Proofs.YtbajncpfmemdgaaGreatDoor
open Go Go.Ev Go.IntWalk
theorem F311:bl Tryz.prog 311 Tryz.f311:=.of (by kernel_rfl) (by kernel_rfl)
def gM (t:af) (i:Nat):aj:=t.f2.getD i default
def fL (s:SP) (L:List aj):Prop:=(L=[]∧s=.val .ak)∨∃n f,0<n∧bu n f L∧s=.row n f 7
theorem fL.nil {L:List aj} (h:fL (.val .ak) L):L=[]:=by
 rcases h with ⟨h,_⟩ | ⟨_,_,_,_,h⟩
 ·exact h
 ·cases h
theorem fL.one (x:aj):fL (.row 1 (fun _=>.agg (aj.cells x)) 7) [x]:=.inr ⟨1,_,by omega,bu.one x,rfl⟩
theorem fL.push {n:Nat} {f:Nat→V} {L:List aj} (h:bu n f L) (x:aj):fL (.row (n+1) (dL n f fun _=>.agg (aj.cells x)) 7) (L++[x]):=.inr ⟨_,_,by omega,h.push x,rfl⟩
theorem fL.clean [Env] {s:SP} {L:List aj} (h:fL s L):s.clean:=by
 rcases h with ⟨_,rfl⟩ | ⟨n,f,_,hr,rfl⟩
 ·exact Go.Ev.Clean.ak
 ·exact hr.cl
theorem sB {α:Type} {p:Nat→Bool} {q:Nat→α} (h0:p 0=true):∀n,0<n→br p q n≠[]
 | 0,h=>absurd h (Nat.lt_irrefl 0)
 | n+1,_=>by
  show(if p n=true then br p q n++[q n] else br p q n)≠[]
  by_cases e:n=0
  ·subst e;rw[if_pos h0];simp
  ·split
   ·simp
   ·exact sB h0 n (by omega)
def dD (t:af) (c:an) (b:Bool) (i:Nat):List aj:=br (ik t c b) (gM t) i
abbrev BL (c:an) (t:af) (r1 r2:SP):SV:=.nest (.sl 2 2 3 true) [.val (.str c.f3),.val (.int .i64 t.f1),r1,.val (.str c.f4),.val (.int .i64 t.f1),r2]
def jW (t:af) (c:an) (i:Nat):Int:=if aB t (c.f7.getD i default)<t.f1∨kW c.f7 (c.f7.getD i default)≠i then 10 else 0
def yr (c:an) (t:af):Nat→List SV→Prop
 | 0,ss=>∃i:Nat,(i≤c.f7.length∧aK c.f3=0∧aK c.f4=0∧¬c.f3=c.f4)∧(∀j,j<i→jW t c j=0)∧ss=[.box c.cells,.box t.cells,.val (ae V.str 1 c.f7),.val (.int .i64 ((c.f7.length:Nat):Int)),.val (.int .i64 (i:Int))]
 | 1,ss=>k6 t c=0∧∃(i:Nat) (r1 r2:SP),i≤t.f2.length∧fL r1 (dD t c true i)∧fL r2 (dD t c false i)∧ss=[.box c.cells,.box t.cells,BL c t r1 r2,.val (ae aj.enc 7 t.f2),.val (.int .i64 ((t.f2.length:Nat):Int)),.val (.int .i64 (i:Int))]
 | 2,ss=>k6 t c=0∧∃(i q:Nat) (r1 r2:SP),i<t.f2.length∧q≤2∧fL r1 (dD t c true (i+if 1≤q then 1 else 0))∧fL r2 (dD t c false (i+if 2≤q then 1 else 0))∧
   ss=[.box c.cells,.box t.cells,BL c t r1 r2,.val (.int .i64 (i:Int)),.box (gM t i).cells,.val (.bool (named t c i)),.val (ae aj.enc 7 t.f2),.val (.int .i64 ((t.f2.length:Nat):Int)),.val (.int .i64 (i:Int)),.val (.int .i64 (2:Int)),.val (.int .i64 (q:Int))]
 | _,_=>False
def at3:List SV→Nat
 | [_,_,_,.val (.int _ u),_,_,_,_,_,_,_]=>u.toNat
 | _=>0
def ahT (c:an) (t:af):Nat→List SV→Nat
 | 0,ss=>200+(c.f7.length-cb ss)
 | 1,ss=>10*(t.f2.length-cb ss)+5
 | _,ss=>10*(t.f2.length-at3 ss)+(3-cb ss)
section
variable [Env]
omit [Env] in
theorem tM {t:af} {c:an} (h1:aK c.f3=0) (h2:aK c.f4=0) (h3:¬c.f3=c.f4) {i:Nat} (hi:i<c.f7.length) (hb:jW t c i≠0) (hj:∀j,j<i→jW t c j=0):k6 t c=10:=by
 have:dC (jW t c) c.f7.length=jW t c i:=jt _ _ i hi hb hj
 have mb:jW t c i=10:=by
  unfold jW at hb⊢
  split
  ·rfl
  ·rename_i h;rw[if_neg h] at hb;exact(hb rfl).elim
 unfold k6
 rw[if_neg fun h=>h h1,if_neg fun h=>h h2,if_neg h3]
 exact this.trans mb
omit [Env] in
theorem Ku {t:af} {c:an} (h1:aK c.f3=0) (h2:aK c.f4=0) (h3:¬c.f3=c.f4) (hj:∀j,j<c.f7.length→jW t c j=0):k6 t c=0:=by
 unfold k6
 rw[if_neg fun h=>h h1,if_neg fun h=>h h2,if_neg h3]
 exact(cM (jW t c) c.f7.length).2 hj
omit [Env] in
theorem nF {t:af} {c:an} {b:Bool} {i:Nat} (h:ik t c b i=true):dD t c b (i+1)=dD t c b i++[gM t i]:=if_pos h
omit [Env] in
theorem tN {t:af} {c:an} {b:Bool} {i:Nat} (h:¬ik t c b i=true):dD t c b (i+1)=dD t c b i:=if_neg h
omit [Env] in
theorem kA {t:af} {c:an} {b:Bool} {i:Nat} (h:(i:Int)<t.f1):ik t c b i=true:=by unfold ik;rw[decide_eq_true h,Bool.true_or]
omit [Env] in
theorem ju {t:af} {c:an} {b:Bool} {i:Nat} (h:¬(i:Int)<t.f1):ik t c b i=(named t c i==b):=by unfold ik;rw[decide_eq_false h,Bool.false_or]
theorem MQ {c:an} {t:af} {l:List SV} (hl:∀u∈l,u.clean):∀u∈SV.box c.cells::SV.box t.cells::l,u.clean:=aN (an.clean c) (aN (af.clean t) hl)
theorem z6 {c:an} {t:af} {r1 r2:SP} (h1:r1.clean) (h2:r2.clean):(BL c t r1 r2).clean:=by
 intro p hp
 have hp:p∈[SP.val (.str c.f3),SP.val (.int .i64 t.f1),r1,SP.val (.str c.f4),SP.val (.int .i64 t.f1),r2]:=hp
 simp only[List.mem_cons,List.not_mem_nil,or_false] at hp
 rcases hp with rfl | rfl | rfl | rfl | rfl | rfl
 ·exact Go.Ev.Clean.str _
 ·exact Go.Ev.Clean.int _ _
 ·exact h1
 ·exact Go.Ev.Clean.str _
 ·exact Go.Ev.Clean.int _ _
 ·exact h2
theorem yr.clean {c:an} {t:af}:∀k ss,yr c t k ss→∀s∈ss,s.clean
 | 0,_,⟨_,_,_,e⟩=>by subst e;exact MQ (aN (fh _) (aG (aG bG)))
 | 1,_,⟨_,_,_,_,_,h1,h2,e⟩=>by subst e;exact MQ (aN (z6 h1.clean h2.clean) (aN (fg _) (aG (aG bG))))
 | 2,_,⟨_,_,_,_,_,_,_,h1,h2,e⟩=>by subst e;exact MQ (aN (z6 h1.clean h2.clean) (aG (aN (aj.clean _) (aN (Go.Ev.Clean.bool _) (aN (fg _) (aG (aG (aG (aG bG)))))))))
 | n+3,_,h=>h.elim
omit [Env] in
theorem fL.Gn {s:SP} {L:List aj} (h:fL s L) (hL:L=[]):s=.val .ak:=by
 rcases h with ⟨_,h⟩ | ⟨n,f,h0,hr,_⟩
 ·exact h
 ·have:=hr.1;rw[hL] at this;simp at this;omega
omit [Env] in
theorem fL.wu {s:SP} {L:List aj} (h:fL s L) (hL:L≠[]):∃n f,bu n f L∧s=.row n f 7:=by
 rcases h with ⟨h,_⟩ | ⟨n,f,_,hr,h⟩
 ·exact(hL h).elim
 ·exact⟨n,f,hr,h⟩
omit [Env] in
theorem bu.lt {t:af} {c:an} {b:Bool} {i n:Nat} {f:Nat→V} (h:bu n f (dD t c b i)) (hi:i≤9):n≤9:=by
 have:=lY (ik t c b) (gM t) i
 have h2:n=(dD t c b i).length:=h.1
 unfold dD at h2
 omega
omit [Env] in
theorem W0 (x y:Int):UF [x,y]=if x≠0 then x else y:=by
 show(if (if (0:Int)≠0 then 0 else x)≠0 then(if (0:Int)≠0 then 0 else x) else y)=_
 rw[if_neg (show ¬(0:Int)≠0 by decide)]
variable [aZ] {vs:List V} {σ:St} {k:ah}
theorem W1 (h:abc vs σ k):ag Tryz.prog 311 vs k σ:=by
 obtain⟨c,l,hf,⟨hc,h0,ic,hl,_,ht⟩,hk,eV⟩:=h
 have ho:xL σ k _ _:=⟨hk,eV⟩
 obtain⟨ou,uN⟩:=ht _ (bn (show 0<l.length by omega))
 rw[SC h0 (l.getD 0 default),MP h0 (l.getD 0 default) (l.getD 1 default)] at ho
 obtain⟨t,htt⟩:∃t,t=l.getD 0 default:=⟨_,rfl⟩
 rw[←htt] at ho uN ou
 have hlen:0<t.f2.length∧t.f2.length≤8∧1≤t.f1:=by have:=(oo uN).1;obtain⟨_,h1,h2,_⟩:=this;omega
 have bS:∀b i,0<i→dD t c b i≠[]:=fun b i hi=>sB (kA (by omega)) i hi
 refine ag.nE hf (F311.jR (live:=gg) (call:=iM) (fun h=>Gm h) 3 (by kernel_rfl) Nat.lt_wfRel.wf (ahT c t) (yr c t) yr.clean ?_ ?_)
 ·rw[ahS,←htt]
  have h3:k6 t c=if aK c.f3≠0 then aK c.f3 else if aK c.f4≠0 then aK c.f4 else if c.f3=c.f4 then 12 else dC (jW t c) c.f7.length:=rfl
  refine⟨⟨by omega,by omega⟩,cB (by simp [V.beq]) ⟨[aK c.f3,aK c.f4],.cons (.kR (.slice (es:=[.int .i64 (aK c.f3),.int .i64 (aK c.f4)]) (by rfl) (.cons (.int _ _) (.cons (.int _ _) .nil)) (fun v hv=>?_) rfl)) .nil,by simp,rfl,?_⟩⟩
  ·simp only[List.mem_cons,List.not_mem_nil,or_false] at hv
   rcases hv with rfl | rfl<;>rfl
  ·rw[W0]
   refine aq (fun a=>ho.err ?_ a) fun a=>aq (fun a2=>ho.err ?_ (by decide)) fun a2=>⟨0,⟨by omega,?_,?_,a2⟩,fun j hj=>absurd hj (Nat.not_lt_zero j),rfl⟩
   ·rw[h3]
    by_cases g1:aK c.f3=0
    ·have e3:¬aK c.f3≠0:=fun h=>h g1
     rw[if_neg e3] at a
     rw[if_neg e3,if_neg e3,if_pos a]
    ·rw[if_pos g1,if_pos g1]
   ·have g1:aK c.f3=0:=Classical.byContradiction fun g=>a (by rw[if_pos g];exact g)
    have g2:aK c.f4=0:=Classical.byContradiction fun g=>a (by rw[if_neg fun h=>h g1];exact g)
    rw[h3,if_neg fun h=>h g1,if_neg fun h=>h g2,if_pos a2]
   ·exact Classical.byContradiction fun g=>a (by rw[if_pos g];exact g)
   ·have g1:aK c.f3=0:=Classical.byContradiction fun g=>a (by rw[if_pos g];exact g)
    exact Classical.byContradiction fun g=>a (by rw[if_neg fun h=>h g1];exact g)
 ·intro j hj ss hI
  match j,hI with
  | 0,hI=>
   obtain⟨i,⟨hi,g1,g2,g3⟩,hb,rfl⟩:=hI
   rw[ac0]
   refine⟨rfl,aq (fun a1=>⟨⟨by omega,by omega⟩,t,_,rfl,by omega,cB (by simp [V.beq]) ⟨rfl,aq (fun a2=>ho.err ?_ (by decide)) fun a2=>⟨_,rfl,ic,rfl,aq (fun a3=>ho.err ?_ (by decide)) fun a3=>?_⟩⟩⟩) fun a1=>?_⟩
   ·rw[dJ] at a2
    exact tM g1 g2 g3 (i:=i) (by omega) (by unfold jW;rw[if_pos (.inl a2)];decide) hb
   ·rw[dJ] at a2 a3
    exact tM g1 g2 g3 (i:=i) (by omega) (by unfold jW;rw[if_pos (.inr a3)];decide) hb
   ·rw[dJ] at a2 a3
    rw[i64_in ((i:Int)+1) (by omega)]
    refine⟨⟨i+1,⟨by omega,g1,g2,g3⟩,fun j hj=>?_,rfl⟩,?_⟩
    ·by_cases e:j=i
     ·subst e;unfold jW;rw[if_neg]
      rintro(h | h)
      ·exact a2 h
      ·exact a3 h
     ·exact hb j (by omega)
    ·show 200+(c.f7.length-((i:Int)+1).toNat)<200+(c.f7.length-(i:Int).toNat)
     omega
   ·obtain rfl:i=c.f7.length:=by omega
    refine⟨⟨Ku g1 g2 g3 hb,0,.val .ak,.val .ak,by omega,.inl ⟨rfl,rfl⟩,.inl ⟨rfl,rfl⟩,rfl⟩,?_⟩
    show 10*(t.f2.length-(0:Int).toNat)+5<200+_
    omega
  | 1,hI=>
   obtain⟨hE,i,r1,r2,hi,h1,h2,rfl⟩:=hI
   by_cases e0:i=0
   ·subst e0
    obtain rfl:=h1.Gn rfl
    obtain rfl:=h2.Gn rfl
    rw[ac1]
    refine⟨rfl,aq (fun a1=>⟨⟨by omega,by omega⟩,_,rfl,ic,⟨hE,0,0,.val .ak,.val .ak,by omega,by omega,.inl ⟨rfl,rfl⟩,.inl ⟨rfl,rfl⟩,rfl⟩,?_⟩) fun a1=>by omega⟩
    show 10*(t.f2.length-(0:Int).toNat)+(3-(0:Int).toNat)<10*(t.f2.length-(0:Int).toNat)+5
    omega
   ·obtain⟨a,f,wv,rfl⟩:=h1.wu (bS _ _ (by omega))
    obtain⟨b,g,sc,rfl⟩:=h2.wu (bS _ _ (by omega))
    rw[ac2]
    refine⟨rfl,aq (fun a1=>⟨⟨by omega,by omega⟩,_,rfl,ic,⟨rfl,rfl⟩,⟨rfl,rfl⟩,⟨hE,i,0,_,_,by omega,by omega,h1,h2,rfl⟩,?_⟩) fun a1=>?_⟩
    ·show 10*(t.f2.length-(i:Int).toNat)+(3-(0:Int).toNat)<10*(t.f2.length-(i:Int).toNat)+5
     omega
    ·obtain rfl:i=t.f2.length:=by omega
     refine bd.pair (b:=2) (n:=2) (esz:=3) (g:=fun i=>af.enc ((yn t c).getD i default)) (.slice (p:=false) (by rfl) (.inl ⟨rfl,Nat.le_refl _⟩) (fun _ _=>rfl) fun i hi=>?_) (.int _ _) (ho.ok hE)
     rcases(show i=0∨i=1 by omega) with rfl | rfl
     ·obtain⟨rfl,hr⟩:=wv
      exact⟨_,by rfl,.cons (.str _) (.cons (.int _ _) (.cons (.own (g:=fun i=>aj.enc ((dD t c true t.f2.length).getD i default)) (p:=false) (by rfl) (fun i hi=>by rw[hr i hi];exact g8 (aj.clean _)) fun i hi=>rfl) .nil))⟩
     ·obtain⟨rfl,hr⟩:=sc
      exact⟨_,by rfl,.cons (.str _) (.cons (.int _ _) (.cons (.own (g:=fun i=>aj.enc ((dD t c false t.f2.length).getD i default)) (p:=false) (by rfl) (fun i hi=>by rw[hr i hi];exact g8 (aj.clean _)) fun i hi=>rfl) .nil))⟩
  | 2,hI=>
   obtain⟨hE,i,q,r1,r2,hi,hq,h1,h2,rfl⟩:=hI
   have key:((i:Nat):Int)<t.f1→∀b,ik t c b i=true:=fun h b=>kA h
   rcases(show q=0∨q=1∨q=2 by omega) with rfl | rfl | rfl
   ·have h1:fL r1 (dD t c true i):=h1
    have h2:fL r2 (dD t c false i):=h2
    have nx:∀r,fL r (dD t c true (i+1))→∀b,named t c i=b→yr c t 2 [.box c.cells,.box t.cells,BL c t r r2,.val (.int .i64 (i:Int)),.box (gM t i).cells,.val (.bool b),.val (ae aj.enc 7 t.f2),.val (.int .i64 ((t.f2.length:Nat):Int)),.val (.int .i64 (i:Int)),.val (.int .i64 (2:Int)),.val (.int .i64 (1:Int))]∧
      10*(t.f2.length-(i:Int).toNat)+(3-(1:Int).toNat)<10*(t.f2.length-(i:Int).toNat)+(3-(0:Int).toNat):=fun r hr b hb=>⟨⟨hE,i,1,r,r2,hi,by omega,hr,h2,by rw[hb];rfl⟩,by omega⟩
    rw[show(((0:Nat)):Int)=0 from rfl]
    by_cases e0:i=0
    ·subst e0
     obtain rfl:=h1.Gn rfl
     obtain rfl:=h2.Gn rfl
     have s1:dD t c true (0+1)=[gM t 0]:=nF (key (by omega) _)
     have nx:=fun b hb=>nx (.row 1 (fun _=>.agg (aj.cells (gM t 0))) 7) (by rw[s1];exact fL.one _) b hb
     cases hb:named t c 0 with
     | true=>rw[WK];unfold Sr;exact⟨rfl,rfl,aq (fun _=>⟨⟨rfl,rfl,rfl⟩,nx _ hb⟩) fun a=>absurd (show((0:Nat):Int)<t.f1 by omega) a⟩
     | false=>rw[WM];unfold Sq;exact⟨rfl,rfl,aq (fun _=>⟨⟨rfl,rfl,rfl⟩,nx _ hb⟩) fun a=>absurd (show((0:Nat):Int)<t.f1 by omega) a⟩
    ·obtain⟨a,f,wv,rfl⟩:=h1.wu (bS _ _ (by omega))
     obtain⟨b,g,sc,rfl⟩:=h2.wu (bS _ _ (by omega))
     have ha:=wv.lt (by omega)
     have Gp:ik t c true i=true→∀b',named t c i=b'→_:=fun h b' hb=>nx (.row (a+1) (dL a f fun _=>.agg (aj.cells (gM t i))) 7) (by rw[nF h];exact fL.push wv _) b' hb
     have SE:¬ik t c true i=true→∀b',named t c i=b'→_:=fun h b' hb=>nx (.row a f 7) (by rw[tN h];exact h1) b' hb
     cases hb:named t c i with
     | true=>rw[WQ];unfold Sx ML;exact⟨rfl,rfl,aq (fun k=>⟨⟨rfl,by omega⟩,⟨rfl,rfl⟩,⟨rfl,rfl⟩,Gp (key k _) _ hb⟩) fun k=>⟨rfl,aa.mk (fun _=>⟨⟨rfl,by omega⟩,⟨rfl,rfl⟩,⟨rfl,rfl⟩,Gp (by rw[ju k,hb];rfl) _ hb⟩) fun h=>by cases h⟩⟩
     | false=>rw[WR];unfold Sv MK;exact⟨rfl,rfl,aq (fun k=>⟨⟨rfl,by omega⟩,⟨rfl,rfl⟩,⟨rfl,rfl⟩,Gp (key k _) _ hb⟩) fun k=>⟨rfl,aa.mk (fun h=>by cases h) fun _=>⟨⟨rfl,rfl⟩,⟨rfl,rfl⟩,SE (by rw[ju k,hb];decide) _ hb⟩⟩⟩
   ·have h1:fL r1 (dD t c true (i+1)):=h1
    have h2:fL r2 (dD t c false i):=h2
    have nx:∀r,fL r (dD t c false (i+1))→∀b,named t c i=b→yr c t 2 [.box c.cells,.box t.cells,BL c t r1 r,.val (.int .i64 (i:Int)),.box (gM t i).cells,.val (.bool b),.val (ae aj.enc 7 t.f2),.val (.int .i64 ((t.f2.length:Nat):Int)),.val (.int .i64 (i:Int)),.val (.int .i64 (2:Int)),.val (.int .i64 (2:Int))]∧
      10*(t.f2.length-(i:Int).toNat)+(3-(2:Int).toNat)<10*(t.f2.length-(i:Int).toNat)+(3-(1:Int).toNat):=fun r hr b hb=>⟨⟨hE,i,2,r1,r,hi,by omega,h1,hr,by rw[hb];rfl⟩,by omega⟩
    rw[show(((1:Nat)):Int)=1 from rfl]
    obtain⟨a,f,wv,rfl⟩:=h1.wu (bS _ _ (by omega))
    by_cases e0:i=0
    ·subst e0
     obtain rfl:=h2.Gn rfl
     have s1:dD t c false (0+1)=[gM t 0]:=nF (key (by omega) _)
     have nx:=fun b hb=>nx (.row 1 (fun _=>.agg (aj.cells (gM t 0))) 7) (by rw[s1];exact fL.one _) b hb
     cases hb:named t c 0 with
     | true=>rw[WN];unfold Su;exact⟨rfl,rfl,aq (fun _=>⟨⟨rfl,rfl⟩,⟨rfl,rfl,rfl⟩,nx _ hb⟩) fun a=>absurd (show((0:Nat):Int)<t.f1 by omega) a⟩
     | false=>rw[WO];unfold Ss;exact⟨rfl,rfl,aq (fun _=>⟨⟨rfl,rfl⟩,⟨rfl,rfl,rfl⟩,nx _ hb⟩) fun a=>absurd (show((0:Nat):Int)<t.f1 by omega) a⟩
    ·obtain⟨b,g,sc,rfl⟩:=h2.wu (bS _ _ (by omega))
     have bA:=sc.lt (by omega)
     have Gp:ik t c false i=true→∀b',named t c i=b'→_:=fun h b' hb=>nx (.row (b+1) (dL b g fun _=>.agg (aj.cells (gM t i))) 7) (by rw[nF h];exact fL.push sc _) b' hb
     have SE:¬ik t c false i=true→∀b',named t c i=b'→_:=fun h b' hb=>nx (.row b g 7) (by rw[tN h];exact h2) b' hb
     cases hb:named t c i with
     | false=>rw[WT];unfold Sw MK;exact⟨rfl,rfl,aq (fun k=>⟨⟨rfl,by omega⟩,⟨rfl,rfl⟩,⟨rfl,rfl⟩,Gp (key k _) _ hb⟩) fun k=>⟨rfl,aa.mk (fun _=>⟨⟨rfl,by omega⟩,⟨rfl,rfl⟩,⟨rfl,rfl⟩,Gp (by rw[ju k,hb];rfl) _ hb⟩) fun h=>by cases h⟩⟩
     | true=>rw[WS];unfold Sy ML;exact⟨rfl,rfl,aq (fun k=>⟨⟨rfl,by omega⟩,⟨rfl,rfl⟩,⟨rfl,rfl⟩,Gp (key k _) _ hb⟩) fun k=>⟨rfl,aa.mk (fun h=>by cases h) fun _=>⟨⟨rfl,rfl⟩,⟨rfl,rfl⟩,SE (by rw[ju k,hb];decide) _ hb⟩⟩⟩
   ·have h1:fL r1 (dD t c true (i+1)):=h1
    have h2:fL r2 (dD t c false (i+1)):=h2
    rw[show(((2:Nat)):Int)=2 from rfl]
    obtain⟨a,f,wv,rfl⟩:=h1.wu (bS _ _ (by omega))
    obtain⟨b,g,sc,rfl⟩:=h2.wu (bS _ _ (by omega))
    have nx:yr c t 1 [.box c.cells,.box t.cells,BL c t (.row a f 7) (.row b g 7),.val (ae aj.enc 7 t.f2),.val (.int .i64 ((t.f2.length:Nat):Int)),.val (.int .i64 (IntKind.i64.wrap ((i:Int)+1)))]∧
      10*(t.f2.length-(IntKind.i64.wrap ((i:Int)+1)).toNat)+5<10*(t.f2.length-(i:Int).toNat)+(3-(2:Int).toNat):=by
     rw[i64_in ((i:Int)+1) (by omega)]
     exact⟨⟨hE,i+1,_,_,by omega,h1,h2,rfl⟩,by omega⟩
    cases hb:named t c i with
    | true=>rw[WU];unfold MM;exact⟨rfl,⟨rfl,rfl⟩,⟨rfl,rfl⟩,nx⟩
    | false=>rw[WV];unfold MM;exact⟨rfl,⟨rfl,rfl⟩,⟨rfl,rfl⟩,nx⟩
  | n+3,hI=>exact hI.elim
theorem Gq:∀ {f:FuncId} {vs:List V} {σ:St} {k:ah},zY f vs σ k→ag Tryz.prog f vs k σ:=fun h=>aH W1 Gm h
end
end Go.Proofs.YtbajncpfmemdgaaGreatDoor
end
