/- Proved: parts of the way: BEq18, BEq19, BD1. -/
import Derived.Test.YtbajncpfmemdgaaGreatDoorEvQ21
section
namespace Go.Proofs.YtbajncpfmemdgaaGreatDoor
open Go Go.Ev
def e8 (t:af):Prop:=∀c∈t.f2,zP c.f3
def gL (c:an):Prop:=zP c.f8.f3∧e8 c.f9
def aB (t:af) (s:List UInt8):Int:=ct s (fun i=>(t.f2.getD i default).f0) t.f2.length
def br {α:Type} (p:Nat→Bool) (q:Nat→α):Nat→List α
 | 0=>[]
 | n+1=>if p n=true then br p q n++[q n] else br p q n
def kW (l:List (List UInt8)) (s:List UInt8):Int:=ct s (fun i=>l.getD i default) l.length
noncomputable def k5 (t:af) (c:aj):Int:=
 if bO c≠0 then bO c else if 0≤aB t c.f0 then 12 else if 8≤t.f2.length then 2 else if c.f2=false∧c.f3.f0=0 then 11 else 0
def BA (t:af) (c:aj):af:=⟨t.f0,t.f1,t.f2++[c]⟩
def Mt (t:af) (s:List UInt8):Int:=if aB t s<t.f1 then 10 else 0
def w9 (t:af) (s:List UInt8):af:=⟨t.f0,t.f1,br (fun i=>decide ((i:Int)≠aB t s)) (fun i=>t.f2.getD i default) t.f2.length⟩
def pd (t:af) (s:List UInt8):aj:=t.f2.getD (aB t s).toNat default
def rq (t:af) (s:List UInt8) (d:Int):Int:=if aB t s<t.f1 then 10 else if jh (pd t s).f1 d=true then 0 else 5
noncomputable def BB (x:aj) (d:Int):aj:=⟨x.f0,d,x.f2,j3 x.f3 d⟩
noncomputable def wm (t:af) (s:List UInt8) (d:Int):af:=⟨t.f0,t.f1,t.f2.set (aB t s).toNat (BB (pd t s) d)⟩
noncomputable def k6 (t:af) (c:an):Int:=
 if aK c.f3≠0 then aK c.f3 else if aK c.f4≠0 then aK c.f4 else if c.f3=c.f4 then 12
 else dC (fun i=>if aB t (c.f7.getD i default)<t.f1∨kW c.f7 (c.f7.getD i default)≠i then 10 else 0) c.f7.length
def named (t:af) (c:an) (i:Nat):Bool:=decide (0≤kW c.f7 (t.f2.getD i default).f0)
def ik (t:af) (c:an) (b:Bool) (i:Nat):Bool:=decide ((i:Int)<t.f1)||(named t c i==b)
def yn (t:af) (c:an):List af:=
 [⟨c.f3,t.f1,br (ik t c true) (fun i=>t.f2.getD i default) t.f2.length⟩,⟨c.f4,t.f1,br (ik t c false) (fun i=>t.f2.getD i default) t.f2.length⟩]
noncomputable def lW (t u:af) (c:an):Int:=
 if c.f1=c.f2 then 12 else if aK c.f3≠0 then aK c.f3 else @ite _ (t.f1≠u.f1∨t.f2≠u.f2) (Classical.propDecidable _) 11 0
def FV (t:af) (c:an):af:=⟨c.f3,t.f1,t.f2⟩
def bt (c:an):List (List UInt8):=if c.f0=6 then [c.f1,c.f2] else if 2≤c.f0∧c.f0≤5 then [c.f1] else []
noncomputable def kE (c:an) (t u:af):Int:=
 if c.f0=1 then bR c.f9 else if c.f0=2 then k5 t c.f8 else if c.f0=3 then Mt t c.f5 else if c.f0=4 then rq t c.f5 c.f6 else if c.f0=5 then k6 t c else lW t u c
noncomputable def kT (c:an) (t:af):List af:=
 if c.f0=1 then [c.f9] else if c.f0=2 then [BA t c.f8] else if c.f0=3 then [w9 t c.f5] else if c.f0=4 then [wm t c.f5 c.f6] else if c.f0=5 then yn t c else [FV t c]
noncomputable def aD (l:List af) (s:List UInt8):af:=l.getD (aS l s).toNat default
noncomputable def fp (l:List af) (ss:List (List UInt8)):Int:=dC (fun i=>if aS l (ss.getD i default)<0 then 9 else 0) ss.length
noncomputable def UE (l:List af) (ss:List (List UInt8)) (out:List af):Int:=dC (fun i=>if 0≤aS l (out.getD i default).f0∧kW ss (out.getD i default).f0<0 then 12 else 0) out.length
noncomputable def gf (l:List af) (c:an):Int:=
 if cG l≠0 then cG l else if c.f0<1∨6<c.f0 then 1 else if fp l (bt c)≠0 then fp l (bt c)
 else if kE c (aD l c.f1) (aD l c.f2)≠0 then kE c (aD l c.f1) (aD l c.f2) else UE l (bt c) (kT c (aD l c.f1))
noncomputable def gq (l:List af) (c:an):List af:=if gf l c=0 then kT c (aD l c.f1) else []
def bu (n:Nat) (f:Nat→V) (l:List aj):Prop:=n=l.length∧∀i,i<n→f i=aj.enc (l.getD i default)
noncomputable def UF (l:List Int):Int:=dC (fun i=>l.getD i default) l.length
def aX:List aj→List V
 | []=>[]
 | x::r=>x.cells++aX r
def dU:aj:=⟨[],0,false,⟨0,0,0,[]⟩⟩
noncomputable def wo (t:af) (c:aj):af:=if k5 t c=0 then BA t c else t
noncomputable def wq (t:af) (s:List UInt8) (d:Int):af:=if rq t s d=0 then wm t s d else t
noncomputable def FW (t:af) (c:an):List af:=if k6 t c=0 then yn t c else []
noncomputable def FX (t u:af) (c:an):List af:=if lW t u c=0 then [FV t c] else []
def BC:Nat→List Nat:=(fun i=>match i with | 0=>[0,1,7,8] | _=>[])
theorem ahs [Env] (A:Nat→List SV→Prop) (Q:V→Prop) (n:Nat) (h:Nat→List UInt8) (s:List UInt8):WE Tryz.prog 122 Tryz.f122 FT 0 BC A (fun v _=>Q v) [V.arr n (fun i=>V.str (h i)) 1 false false,.str s] Go.Ev.start=
  (A 0 [.val (V.arr n (fun i=>V.str (h i)) 1 false false),.val (.str s),.val (.int .i64 (((n:Nat):Int))),.val (.int .i64 (0:Int))]):=by kernel_rfl
theorem aht [Env] (A:Nat→List SV→Prop) (Q:V→Prop) (n:Nat) (h:Nat→List UInt8) (s:List UInt8) (m i:Int):WL Tryz.prog 122 Tryz.f122 FT 0 BC A (fun v _=>Q v) 0 [.val (V.arr n (fun i=>V.str (h i)) 1 false false),.val (.str s),.val (.int .i64 m),.val (.int .i64 i)]=
  (((.i64:IntKind)=.i64∧aa (decide (i<m)) (((0≤i∧i<((n:Nat):Int))∧aa (decide (s=(h i.toNat))) (Q (.int .i64 i)) (A 0 [.val (V.arr n (fun i=>V.str (h i)) 1 false false),.val (.str s),.val (.int .i64 m),.val (.int .i64 (IntKind.i64.wrap (i+(1:Int))))]))) (Q (.int .i64 (-1:Int))))):=by kernel_rfl
def RK [Env] (vs:List V) (σ:St) (k:ah):Prop:=
 match vs with
 | [.arr n f 1 false false,.str s]=>∃q:Nat→List UInt8,f=(fun i=>V.str (q i))∧n≤1000000∧k (.int .i64 (ct s q n)) σ
 | _=>False
def Mu [Env]:=kS 122 RK FT
def O6:Nat→List Nat:=(fun _=>[])
theorem e73 [Env] (A:Nat→List SV→Prop) (Q:V→Prop) (n:Nat) (h:Nat→List UInt8) (s:List UInt8):WE Tryz.prog 73 Tryz.f73 Mu 0 O6 A (fun v _=>Q v) [V.arr n (fun i=>V.str (h i)) 1 false false,.str s] Go.Ev.start=
  ((∃ZW:Nat→List UInt8,(fun i=>V.str (h i))=(fun i=>V.str (ZW i))∧n≤1000000∧((.i64:IntKind)=.i64∧aa (decide ((ct s ZW n)≥(0:Int))) (Q (.bool true)) (Q (.bool false))))):=by kernel_rfl
def ZX [Env] (vs:List V) (σ:St) (k:ah):Prop:=
 match vs with
 | [.arr n f 1 false false,.str s]=>∃q:Nat→List UInt8,f=(fun i=>V.str (q i))∧n≤1000000∧k (.bool (decide (0≤ct s q n))) σ
 | _=>False
def Mv [Env]:=kS 73 ZX Mu
def JZ:Nat→List Nat:=(fun _=>[])
theorem ahu [Env] (A:Nat→List SV→Prop) (Q:V→Prop) (n:Nat) (h:Nat→List UInt8) (s:List UInt8):WE Tryz.prog 250 Tryz.f250 Mv 0 JZ A (fun v _=>Q v) [V.arr n (fun i=>V.str (h i)) 1 false false,.str s] Go.Ev.start=
  ((∃ZY:Nat→List UInt8,(fun i=>V.str (h i))=(fun i=>V.str (ZY i))∧n≤1000000∧Q (.int .i64 (ct s ZY n)))):=by kernel_rfl
def RL [Env] (vs:List V) (σ:St) (k:ah):Prop:=
 match vs with
 | [.arr n f 1 false false,.str s]=>∃q:Nat→List UInt8,f=(fun i=>V.str (q i))∧n≤1000000∧k (.int .i64 (ct s q n)) σ
 | _=>False
def Mw [Env]:=kS 250 RL Mv
def J0:Nat→List Nat:=(fun _=>[])
theorem ahv [Env] (A:Nat→List SV→Prop) (Q:V→Prop) (t:af) (s:List UInt8):WE Tryz.prog 226 Tryz.f226 Mw 0 J0 A (fun v _=>Q v) [af.enc t,.str s] Go.Ev.start=
  ((∃ZZ:Nat→aj,(fun i=>aj.enc (t.f2.getD i default))=(fun i=>aj.enc (ZZ i))∧t.f2.length≤1000∧(∃Z0:Nat→List UInt8,(fun i=>V.str ((fun i=>(ZZ i).f0) i))=(fun i=>V.str (Z0 i))∧t.f2.length≤1000000∧Q (.int .i64 (ct s Z0 t.f2.length))))):=by kernel_rfl
def Z1 [Env] (vs:List V) (σ:St) (k:ah):Prop:=
 ∃(t:af) (s:List UInt8),vs=[af.enc t,.str s]∧t.f2.length≤1000∧k (.int .i64 (aB t s)) σ
def Mx [Env]:=kS 226 Z1 Mw
def J1:Nat→List Nat:=(fun _=>[])
theorem ahw [Env] (A:Nat→List SV→Prop) (Q:V→Prop) (t:af) (s:List UInt8):WE Tryz.prog 127 Tryz.f127 Mx 0 J1 A (fun v _=>Q v) [af.enc t,.str s] Go.Ev.start=
  ((∃Z2:Nat→aj,(fun i=>aj.enc (t.f2.getD i default))=(fun i=>aj.enc (Z2 i))∧t.f2.length≤1000∧(∃q:Nat→List UInt8,(fun i=>V.str ((fun i=>(Z2 i).f0) i))=(fun i=>V.str (q i))∧t.f2.length≤1000000∧Q (.int .i64 (ct s q t.f2.length))))):=by kernel_rfl
def Z3 [Env] (vs:List V) (σ:St) (k:ah):Prop:=
 ∃(t:af) (s:List UInt8),vs=[af.enc t,.str s]∧t.f2.length≤1000∧k (.int .i64 (aB t s)) σ
def FY [Env]:=kS 127 Z3 Mx
def FZ:Nat→List Nat:=(fun _=>[])
theorem e74 [Env] (A:Nat→List SV→Prop) (Q:V→St→Prop) (l:List aj):WE Tryz.prog 74 Tryz.f74 FY 0 FZ A Q [Ls aj.enc 7 l] Go.Ev.start=
  (aa (decide (l.length=0)) (Q (.slice 0 0 (0) (0) true 7) ⟨(St.new Go.Ev.start 0 (.cells 0 [] (ai [] .leaf 0) true false)).heap,1⟩) (l.length*72≤1099511627776∧Q (.own 1 l.length 7) ⟨(St.new (St.new Go.Ev.start 0 (.cells 0 [] (ai [] .leaf 0) true false)) 1 (.row l.length (fun i=>aj.enc (l.getD i default)) 7 true)).heap,2⟩)):=by kernel_rfl
def W74 [Env] (vs:List V) (σ:St) (k:ah):Prop:=
 ∃l:List aj,vs=[ae aj.enc 7 l]∧(0<l.length∧l.length≤1000)∧k (.own σ.next l.length 7) (σ.new σ.next (.row l.length (fun i=>aj.enc (l.getD i default)) 7 false))
def BD [Env]:=kS 74 W74 FY
def xa:Nat→List Nat:=(fun i=>match i with | 0=>[0,1,5,6] | _=>[])
theorem ahx [Env] (A:Nat→List SV→Prop) (Q:V→St→Prop) (l:List aj) (a:Int):WE Tryz.prog 128 Tryz.f128 BD 0 xa A Q [ae aj.enc 7 l,.int .i64 a] Go.Ev.start=
  (A 0 [.val (ae aj.enc 7 l),.val (.int .i64 a),.val (.ak),.val (.int .i64 (0:Int))]):=by kernel_rfl
theorem acQ [Env] (A:Nat→List SV→Prop) (Q:V→St→Prop) (l:List aj) (a i:Int):WL Tryz.prog 128 Tryz.f128 BD 0 xa A Q 0 [.val (ae aj.enc 7 l),.val (.int .i64 a),.val (.ak),.val (.int .i64 i)]=
  (((.i64:IntKind)=.i64∧aa (decide (i<(((l.length:Nat):Int)))) (((.i64:IntKind)=.i64∧aa (decide (i≠a)) (((0≤i∧i<((l.length:Nat):Int))∧(((1:Nat)=1∧(1:Nat)=1∧1*7=1*7)∧A 0 [.val (ae aj.enc 7 l),.val (.int .i64 a),.row 1 (fun _=>.agg (aj.cells (l.getD i.toNat default))) 7,.val (.int .i64 (IntKind.i64.wrap (i+(1:Int))))]))) (A 0 [.val (ae aj.enc 7 l),.val (.int .i64 a),.val (.ak),.val (.int .i64 (IntKind.i64.wrap (i+(1:Int))))]))) (Q (.ak) ⟨Go.Ev.start.heap,0⟩))):=by kernel_rfl
theorem acR [Env] (A:Nat→List SV→Prop) (Q:V→St→Prop) (l:List aj) (a i:Int) (m:Nat) (f:Nat→V):WL Tryz.prog 128 Tryz.f128 BD 0 xa A Q 0 [.val (ae aj.enc 7 l),.val (.int .i64 a),.row m f 7,.val (.int .i64 i)]=
  (((.i64:IntKind)=.i64∧aa (decide (i<(((l.length:Nat):Int)))) (((.i64:IntKind)=.i64∧aa (decide (i≠a)) (((0≤i∧i<((l.length:Nat):Int))∧((m=m∧(m+1)*72≤1099511627776)∧(((m+1)=(m+1)∧7=7)∧A 0 [.val (ae aj.enc 7 l),.val (.int .i64 a),.row (m+1) (dL m f (fun _=>.agg (aj.cells (l.getD i.toNat default)))) 7,.val (.int .i64 (IntKind.i64.wrap (i+(1:Int))))])))) (((m=m∧7=7)∧A 0 [.val (ae aj.enc 7 l),.val (.int .i64 a),.row m f 7,.val (.int .i64 (IntKind.i64.wrap (i+(1:Int))))])))) (Q (.own 0 m 7) ⟨(St.new Go.Ev.start 0 (.row m f 7 false)).heap,1⟩))):=by kernel_rfl
def Z4 [Env] (vs:List V) (σ:St) (k:ah):Prop:=
 ∃(l:List aj) (a:Int),vs=[ae aj.enc 7 l,.int .i64 a]∧l.length≤1000∧((br (fun i=>decide ((i:Int)≠a)) (fun i=>l.getD i default) l.length=[]→k .ak σ)∧∀n f,0<n→bu n f (br (fun i=>decide ((i:Int)≠a)) (fun i=>l.getD i default) l.length)→k (.own σ.next n 7) (σ.new σ.next (.row n f 7 false)))
def cz [Env]:=kS 128 Z4 BD
theorem RM [Env] (A:Nat→List SV→Prop) (Q:V→St→Prop) (x0 x1:aj):WE Tryz.prog 307 Tryz.f307 cz 0 (fun _=>[]) A Q [.slice 0 0 2 2 false 7,.int .i64 1,.int .i64 2] (bc (.cells 14 [] (ai (aX [x0,x1]) .leaf 0) false false))=
  (((.i64:IntKind)=.i64∧Q (.slice 0 0 (1) (2) false 7) ⟨(bc (.cells 14 [] (ai (aX [x0,dU]) .leaf 0) false false)).heap,9⟩)):=by kernel_rfl
theorem RN [Env] (A:Nat→List SV→Prop) (Q:V→St→Prop) (x0 x1 x2:aj):WE Tryz.prog 307 Tryz.f307 cz 0 (fun _=>[]) A Q [.slice 0 0 3 3 false 7,.int .i64 1,.int .i64 2] (bc (.cells 21 [] (ai (aX [x0,x1,x2]) .leaf 0) false false))=
  (((.i64:IntKind)=.i64∧Q (.slice 0 0 (2) (3) false 7) ⟨(bc (.cells 21 [] (ai (aX [x0,x2,dU]) .leaf 0) false false)).heap,9⟩)):=by kernel_rfl
theorem RO [Env] (A:Nat→List SV→Prop) (Q:V→St→Prop) (x0 x1 x2:aj):WE Tryz.prog 307 Tryz.f307 cz 0 (fun _=>[]) A Q [.slice 0 0 3 3 false 7,.int .i64 2,.int .i64 3] (bc (.cells 21 [] (ai (aX [x0,x1,x2]) .leaf 0) false false))=
  (((.i64:IntKind)=.i64∧Q (.slice 0 0 (2) (3) false 7) ⟨(bc (.cells 21 [] (ai (aX [x0,x1,dU]) .leaf 0) false false)).heap,9⟩)):=by kernel_rfl
theorem RP [Env] (A:Nat→List SV→Prop) (Q:V→St→Prop) (x0 x1 x2 x3:aj):WE Tryz.prog 307 Tryz.f307 cz 0 (fun _=>[]) A Q [.slice 0 0 4 4 false 7,.int .i64 1,.int .i64 2] (bc (.cells 28 [] (ai (aX [x0,x1,x2,x3]) .leaf 0) false false))=
  (((.i64:IntKind)=.i64∧Q (.slice 0 0 (3) (4) false 7) ⟨(bc (.cells 28 [] (ai (aX [x0,x2,x3,dU]) .leaf 0) false false)).heap,9⟩)):=by kernel_rfl
theorem RQ [Env] (A:Nat→List SV→Prop) (Q:V→St→Prop) (x0 x1 x2 x3:aj):WE Tryz.prog 307 Tryz.f307 cz 0 (fun _=>[]) A Q [.slice 0 0 4 4 false 7,.int .i64 2,.int .i64 3] (bc (.cells 28 [] (ai (aX [x0,x1,x2,x3]) .leaf 0) false false))=
  (((.i64:IntKind)=.i64∧Q (.slice 0 0 (3) (4) false 7) ⟨(bc (.cells 28 [] (ai (aX [x0,x1,x3,dU]) .leaf 0) false false)).heap,9⟩)):=by kernel_rfl
theorem RR [Env] (A:Nat→List SV→Prop) (Q:V→St→Prop) (x0 x1 x2 x3:aj):WE Tryz.prog 307 Tryz.f307 cz 0 (fun _=>[]) A Q [.slice 0 0 4 4 false 7,.int .i64 3,.int .i64 4] (bc (.cells 28 [] (ai (aX [x0,x1,x2,x3]) .leaf 0) false false))=
  (((.i64:IntKind)=.i64∧Q (.slice 0 0 (3) (4) false 7) ⟨(bc (.cells 28 [] (ai (aX [x0,x1,x2,dU]) .leaf 0) false false)).heap,9⟩)):=by kernel_rfl
theorem RS [Env] (A:Nat→List SV→Prop) (Q:V→St→Prop) (x0 x1 x2 x3 x4:aj):WE Tryz.prog 307 Tryz.f307 cz 0 (fun _=>[]) A Q [.slice 0 0 5 5 false 7,.int .i64 1,.int .i64 2] (bc (.cells 35 [] (ai (aX [x0,x1,x2,x3,x4]) .leaf 0) false false))=
  (((.i64:IntKind)=.i64∧Q (.slice 0 0 (4) (5) false 7) ⟨(bc (.cells 35 [] (ai (aX [x0,x2,x3,x4,dU]) .leaf 0) false false)).heap,9⟩)):=by kernel_rfl
theorem RT [Env] (A:Nat→List SV→Prop) (Q:V→St→Prop) (x0 x1 x2 x3 x4:aj):WE Tryz.prog 307 Tryz.f307 cz 0 (fun _=>[]) A Q [.slice 0 0 5 5 false 7,.int .i64 2,.int .i64 3] (bc (.cells 35 [] (ai (aX [x0,x1,x2,x3,x4]) .leaf 0) false false))=
  (((.i64:IntKind)=.i64∧Q (.slice 0 0 (4) (5) false 7) ⟨(bc (.cells 35 [] (ai (aX [x0,x1,x3,x4,dU]) .leaf 0) false false)).heap,9⟩)):=by kernel_rfl
theorem RU [Env] (A:Nat→List SV→Prop) (Q:V→St→Prop) (x0 x1 x2 x3 x4:aj):WE Tryz.prog 307 Tryz.f307 cz 0 (fun _=>[]) A Q [.slice 0 0 5 5 false 7,.int .i64 3,.int .i64 4] (bc (.cells 35 [] (ai (aX [x0,x1,x2,x3,x4]) .leaf 0) false false))=
  (((.i64:IntKind)=.i64∧Q (.slice 0 0 (4) (5) false 7) ⟨(bc (.cells 35 [] (ai (aX [x0,x1,x2,x4,dU]) .leaf 0) false false)).heap,9⟩)):=by kernel_rfl
theorem RV [Env] (A:Nat→List SV→Prop) (Q:V→St→Prop) (x0 x1 x2 x3 x4:aj):WE Tryz.prog 307 Tryz.f307 cz 0 (fun _=>[]) A Q [.slice 0 0 5 5 false 7,.int .i64 4,.int .i64 5] (bc (.cells 35 [] (ai (aX [x0,x1,x2,x3,x4]) .leaf 0) false false))=
  (((.i64:IntKind)=.i64∧Q (.slice 0 0 (4) (5) false 7) ⟨(bc (.cells 35 [] (ai (aX [x0,x1,x2,x3,dU]) .leaf 0) false false)).heap,9⟩)):=by kernel_rfl
theorem RW [Env] (A:Nat→List SV→Prop) (Q:V→St→Prop) (x0 x1 x2 x3 x4 x5:aj):WE Tryz.prog 307 Tryz.f307 cz 0 (fun _=>[]) A Q [.slice 0 0 6 6 false 7,.int .i64 1,.int .i64 2] (bc (.cells 42 [] (ai (aX [x0,x1,x2,x3,x4,x5]) .leaf 0) false false))=
  (((.i64:IntKind)=.i64∧Q (.slice 0 0 (5) (6) false 7) ⟨(bc (.cells 42 [] (ai (aX [x0,x2,x3,x4,x5,dU]) .leaf 0) false false)).heap,9⟩)):=by kernel_rfl
theorem RX [Env] (A:Nat→List SV→Prop) (Q:V→St→Prop) (x0 x1 x2 x3 x4 x5:aj):WE Tryz.prog 307 Tryz.f307 cz 0 (fun _=>[]) A Q [.slice 0 0 6 6 false 7,.int .i64 2,.int .i64 3] (bc (.cells 42 [] (ai (aX [x0,x1,x2,x3,x4,x5]) .leaf 0) false false))=
  (((.i64:IntKind)=.i64∧Q (.slice 0 0 (5) (6) false 7) ⟨(bc (.cells 42 [] (ai (aX [x0,x1,x3,x4,x5,dU]) .leaf 0) false false)).heap,9⟩)):=by kernel_rfl
theorem RY [Env] (A:Nat→List SV→Prop) (Q:V→St→Prop) (x0 x1 x2 x3 x4 x5:aj):WE Tryz.prog 307 Tryz.f307 cz 0 (fun _=>[]) A Q [.slice 0 0 6 6 false 7,.int .i64 3,.int .i64 4] (bc (.cells 42 [] (ai (aX [x0,x1,x2,x3,x4,x5]) .leaf 0) false false))=
  (((.i64:IntKind)=.i64∧Q (.slice 0 0 (5) (6) false 7) ⟨(bc (.cells 42 [] (ai (aX [x0,x1,x2,x4,x5,dU]) .leaf 0) false false)).heap,9⟩)):=by kernel_rfl
theorem RZ [Env] (A:Nat→List SV→Prop) (Q:V→St→Prop) (x0 x1 x2 x3 x4 x5:aj):WE Tryz.prog 307 Tryz.f307 cz 0 (fun _=>[]) A Q [.slice 0 0 6 6 false 7,.int .i64 4,.int .i64 5] (bc (.cells 42 [] (ai (aX [x0,x1,x2,x3,x4,x5]) .leaf 0) false false))=
  (((.i64:IntKind)=.i64∧Q (.slice 0 0 (5) (6) false 7) ⟨(bc (.cells 42 [] (ai (aX [x0,x1,x2,x3,x5,dU]) .leaf 0) false false)).heap,9⟩)):=by kernel_rfl
theorem R0 [Env] (A:Nat→List SV→Prop) (Q:V→St→Prop) (x0 x1 x2 x3 x4 x5:aj):WE Tryz.prog 307 Tryz.f307 cz 0 (fun _=>[]) A Q [.slice 0 0 6 6 false 7,.int .i64 5,.int .i64 6] (bc (.cells 42 [] (ai (aX [x0,x1,x2,x3,x4,x5]) .leaf 0) false false))=
  (((.i64:IntKind)=.i64∧Q (.slice 0 0 (5) (6) false 7) ⟨(bc (.cells 42 [] (ai (aX [x0,x1,x2,x3,x4,dU]) .leaf 0) false false)).heap,9⟩)):=by kernel_rfl
theorem R1 [Env] (A:Nat→List SV→Prop) (Q:V→St→Prop) (x0 x1 x2 x3 x4 x5 x6:aj):WE Tryz.prog 307 Tryz.f307 cz 0 (fun _=>[]) A Q [.slice 0 0 7 7 false 7,.int .i64 1,.int .i64 2] (bc (.cells 49 [] (ai (aX [x0,x1,x2,x3,x4,x5,x6]) .leaf 0) false false))=
  (((.i64:IntKind)=.i64∧Q (.slice 0 0 (6) (7) false 7) ⟨(bc (.cells 49 [] (ai (aX [x0,x2,x3,x4,x5,x6,dU]) .leaf 0) false false)).heap,9⟩)):=by kernel_rfl
theorem R2 [Env] (A:Nat→List SV→Prop) (Q:V→St→Prop) (x0 x1 x2 x3 x4 x5 x6:aj):WE Tryz.prog 307 Tryz.f307 cz 0 (fun _=>[]) A Q [.slice 0 0 7 7 false 7,.int .i64 2,.int .i64 3] (bc (.cells 49 [] (ai (aX [x0,x1,x2,x3,x4,x5,x6]) .leaf 0) false false))=
  (((.i64:IntKind)=.i64∧Q (.slice 0 0 (6) (7) false 7) ⟨(bc (.cells 49 [] (ai (aX [x0,x1,x3,x4,x5,x6,dU]) .leaf 0) false false)).heap,9⟩)):=by kernel_rfl
theorem R3 [Env] (A:Nat→List SV→Prop) (Q:V→St→Prop) (x0 x1 x2 x3 x4 x5 x6:aj):WE Tryz.prog 307 Tryz.f307 cz 0 (fun _=>[]) A Q [.slice 0 0 7 7 false 7,.int .i64 3,.int .i64 4] (bc (.cells 49 [] (ai (aX [x0,x1,x2,x3,x4,x5,x6]) .leaf 0) false false))=
  (((.i64:IntKind)=.i64∧Q (.slice 0 0 (6) (7) false 7) ⟨(bc (.cells 49 [] (ai (aX [x0,x1,x2,x4,x5,x6,dU]) .leaf 0) false false)).heap,9⟩)):=by kernel_rfl
theorem R4 [Env] (A:Nat→List SV→Prop) (Q:V→St→Prop) (x0 x1 x2 x3 x4 x5 x6:aj):WE Tryz.prog 307 Tryz.f307 cz 0 (fun _=>[]) A Q [.slice 0 0 7 7 false 7,.int .i64 4,.int .i64 5] (bc (.cells 49 [] (ai (aX [x0,x1,x2,x3,x4,x5,x6]) .leaf 0) false false))=
  (((.i64:IntKind)=.i64∧Q (.slice 0 0 (6) (7) false 7) ⟨(bc (.cells 49 [] (ai (aX [x0,x1,x2,x3,x5,x6,dU]) .leaf 0) false false)).heap,9⟩)):=by kernel_rfl
theorem R5 [Env] (A:Nat→List SV→Prop) (Q:V→St→Prop) (x0 x1 x2 x3 x4 x5 x6:aj):WE Tryz.prog 307 Tryz.f307 cz 0 (fun _=>[]) A Q [.slice 0 0 7 7 false 7,.int .i64 5,.int .i64 6] (bc (.cells 49 [] (ai (aX [x0,x1,x2,x3,x4,x5,x6]) .leaf 0) false false))=
  (((.i64:IntKind)=.i64∧Q (.slice 0 0 (6) (7) false 7) ⟨(bc (.cells 49 [] (ai (aX [x0,x1,x2,x3,x4,x6,dU]) .leaf 0) false false)).heap,9⟩)):=by kernel_rfl
theorem R6 [Env] (A:Nat→List SV→Prop) (Q:V→St→Prop) (x0 x1 x2 x3 x4 x5 x6:aj):WE Tryz.prog 307 Tryz.f307 cz 0 (fun _=>[]) A Q [.slice 0 0 7 7 false 7,.int .i64 6,.int .i64 7] (bc (.cells 49 [] (ai (aX [x0,x1,x2,x3,x4,x5,x6]) .leaf 0) false false))=
  (((.i64:IntKind)=.i64∧Q (.slice 0 0 (6) (7) false 7) ⟨(bc (.cells 49 [] (ai (aX [x0,x1,x2,x3,x4,x5,dU]) .leaf 0) false false)).heap,9⟩)):=by kernel_rfl
theorem R7 [Env] (A:Nat→List SV→Prop) (Q:V→St→Prop) (x0 x1 x2 x3 x4 x5 x6 x7:aj):WE Tryz.prog 307 Tryz.f307 cz 0 (fun _=>[]) A Q [.slice 0 0 8 8 false 7,.int .i64 1,.int .i64 2] (bc (.cells 56 [] (ai (aX [x0,x1,x2,x3,x4,x5,x6,x7]) .leaf 0) false false))=
  (((.i64:IntKind)=.i64∧Q (.slice 0 0 (7) (8) false 7) ⟨(bc (.cells 56 [] (ai (aX [x0,x2,x3,x4,x5,x6,x7,dU]) .leaf 0) false false)).heap,9⟩)):=by kernel_rfl
theorem R8 [Env] (A:Nat→List SV→Prop) (Q:V→St→Prop) (x0 x1 x2 x3 x4 x5 x6 x7:aj):WE Tryz.prog 307 Tryz.f307 cz 0 (fun _=>[]) A Q [.slice 0 0 8 8 false 7,.int .i64 2,.int .i64 3] (bc (.cells 56 [] (ai (aX [x0,x1,x2,x3,x4,x5,x6,x7]) .leaf 0) false false))=
  (((.i64:IntKind)=.i64∧Q (.slice 0 0 (7) (8) false 7) ⟨(bc (.cells 56 [] (ai (aX [x0,x1,x3,x4,x5,x6,x7,dU]) .leaf 0) false false)).heap,9⟩)):=by kernel_rfl
theorem R9 [Env] (A:Nat→List SV→Prop) (Q:V→St→Prop) (x0 x1 x2 x3 x4 x5 x6 x7:aj):WE Tryz.prog 307 Tryz.f307 cz 0 (fun _=>[]) A Q [.slice 0 0 8 8 false 7,.int .i64 3,.int .i64 4] (bc (.cells 56 [] (ai (aX [x0,x1,x2,x3,x4,x5,x6,x7]) .leaf 0) false false))=
  (((.i64:IntKind)=.i64∧Q (.slice 0 0 (7) (8) false 7) ⟨(bc (.cells 56 [] (ai (aX [x0,x1,x2,x4,x5,x6,x7,dU]) .leaf 0) false false)).heap,9⟩)):=by kernel_rfl
theorem Sa [Env] (A:Nat→List SV→Prop) (Q:V→St→Prop) (x0 x1 x2 x3 x4 x5 x6 x7:aj):WE Tryz.prog 307 Tryz.f307 cz 0 (fun _=>[]) A Q [.slice 0 0 8 8 false 7,.int .i64 4,.int .i64 5] (bc (.cells 56 [] (ai (aX [x0,x1,x2,x3,x4,x5,x6,x7]) .leaf 0) false false))=
  (((.i64:IntKind)=.i64∧Q (.slice 0 0 (7) (8) false 7) ⟨(bc (.cells 56 [] (ai (aX [x0,x1,x2,x3,x5,x6,x7,dU]) .leaf 0) false false)).heap,9⟩)):=by kernel_rfl
theorem Sb [Env] (A:Nat→List SV→Prop) (Q:V→St→Prop) (x0 x1 x2 x3 x4 x5 x6 x7:aj):WE Tryz.prog 307 Tryz.f307 cz 0 (fun _=>[]) A Q [.slice 0 0 8 8 false 7,.int .i64 5,.int .i64 6] (bc (.cells 56 [] (ai (aX [x0,x1,x2,x3,x4,x5,x6,x7]) .leaf 0) false false))=
  (((.i64:IntKind)=.i64∧Q (.slice 0 0 (7) (8) false 7) ⟨(bc (.cells 56 [] (ai (aX [x0,x1,x2,x3,x4,x6,x7,dU]) .leaf 0) false false)).heap,9⟩)):=by kernel_rfl
theorem Sc [Env] (A:Nat→List SV→Prop) (Q:V→St→Prop) (x0 x1 x2 x3 x4 x5 x6 x7:aj):WE Tryz.prog 307 Tryz.f307 cz 0 (fun _=>[]) A Q [.slice 0 0 8 8 false 7,.int .i64 6,.int .i64 7] (bc (.cells 56 [] (ai (aX [x0,x1,x2,x3,x4,x5,x6,x7]) .leaf 0) false false))=
  (((.i64:IntKind)=.i64∧Q (.slice 0 0 (7) (8) false 7) ⟨(bc (.cells 56 [] (ai (aX [x0,x1,x2,x3,x4,x5,x7,dU]) .leaf 0) false false)).heap,9⟩)):=by kernel_rfl
theorem Sd [Env] (A:Nat→List SV→Prop) (Q:V→St→Prop) (x0 x1 x2 x3 x4 x5 x6 x7:aj):WE Tryz.prog 307 Tryz.f307 cz 0 (fun _=>[]) A Q [.slice 0 0 8 8 false 7,.int .i64 7,.int .i64 8] (bc (.cells 56 [] (ai (aX [x0,x1,x2,x3,x4,x5,x6,x7]) .leaf 0) false false))=
  (((.i64:IntKind)=.i64∧Q (.slice 0 0 (7) (8) false 7) ⟨(bc (.cells 56 [] (ai (aX [x0,x1,x2,x3,x4,x5,x6,dU]) .leaf 0) false false)).heap,9⟩)):=by kernel_rfl
def Se [Env] (vs:List V) (σ:St) (k:ah):Prop:=
 match vs with
 | [.own b n 7,.int .i64 x,.int .i64 y]=>∃(l:List aj) (i:Nat),(n=l.length∧x=i∧y=(i:Int)+1)∧σ.heap.get b=some (.row l.length (fun j=>aj.enc (l.getD j default)) 7 false)∧(0<i∧i<l.length∧l.length≤8)∧∀m f,bu m f (br (fun j=>decide (j≠i)) (fun j=>l.getD j default) l.length)→k (.own σ.next m 7) ((σ.kill b).new σ.next (.row m f 7 false))
 | _=>False
def My [Env]:=kS 307 Se cz
end Go.Proofs.YtbajncpfmemdgaaGreatDoor
end
section
namespace Go.Proofs.YtbajncpfmemdgaaGreatDoor
open Go Go.Ev
def J2:Nat→List Nat:=(fun _=>[])
theorem ahy [Env] (A:Nat→List SV→Prop) (Q:V→Prop) (e:aj):WE Tryz.prog 304 Tryz.f304 My 0 J2 A (fun v _=>Q v) [aj.enc e] Go.Ev.start=
  ((∃F0:aj,[.agg (aj.cells e)]=[aj.enc F0]∧mW F0∧(bO F0=0→Q (.int .i64 (0:Int)))∧(bO F0≠0→Q (.int .i64 (bO F0))))):=by kernel_rfl
def Z5 [Env] (vs:List V) (σ:St) (k:ah):Prop:=
 ∃e:aj,vs=[aj.enc e]∧mW e∧k (.int .i64 (bO e)) σ
def F1 [Env]:=kS 304 Z5 My
def BE:Nat→List Nat:=(fun i=>match i with | 0=>[3,6,7,8] | _=>[])
theorem ahz [Env] (A:Nat→List SV→Prop) (Q:V→Prop) (l:List Int):WE Tryz.prog 312 Tryz.f312 F1 0 BE A (fun v _=>Q v) [ae (V.int .i64) 1 l] Go.Ev.start=
  (A 0 [.val (.int .i64 (0:Int)),.val (ae (V.int .i64) 1 l),.val (.int .i64 (((l.length:Nat):Int))),.val (.int .i64 (0:Int))]):=by kernel_rfl
theorem ahA [Env] (A:Nat→List SV→Prop) (Q:V→Prop) (l:List Int) (m i:Int):WL Tryz.prog 312 Tryz.f312 F1 0 BE A (fun v _=>Q v) 0 [.val (.int .i64 (0:Int)),.val (ae (V.int .i64) 1 l),.val (.int .i64 m),.val (.int .i64 i)]=
  (((.i64:IntKind)=.i64∧aa (decide (i<m)) (((0≤i∧i<((l.length:Nat):Int))∧((.i64:IntKind)=.i64∧aa (decide (((l.getD i.toNat default))≠(0:Int))) (Q (.int .i64 ((l.getD i.toNat default)))) (A 0 [.val (.int .i64 (0:Int)),.val (ae (V.int .i64) 1 l),.val (.int .i64 m),.val (.int .i64 (IntKind.i64.wrap (i+(1:Int))))])))) (Q (.int .i64 (0:Int))))):=by kernel_rfl
def Z6 [Env] (vs:List V) (σ:St) (k:ah):Prop:=
 ∃l:List Int,bH σ vs [ae (V.int .i64) 1 l]∧l.length≤1000∧k (.int .i64 (UF l)) σ
def F2 [Env]:=kS 312 Z6 F1
def BF:Nat→List Nat:=(fun i=>match i with | 0=>[0,1,12,13] | _=>[])
theorem ahB [Env] (A:Nat→List SV→Prop) (Q:V→Prop) (l m:List aj):WE Tryz.prog 154 Tryz.f154 F2 0 BF A (fun v _=>Q v) [ae aj.enc 7 l,ae aj.enc 7 m] Go.Ev.start=
  (((.i64:IntKind)=.i64∧aa (decide ((((l.length:Nat):Int))≠(((m.length:Nat):Int)))) (Q (.bool false)) (A 0 [.val (ae aj.enc 7 l),.val (ae aj.enc 7 m),.val (.int .i64 (((l.length:Nat):Int))),.val (.int .i64 (0:Int))]))):=by kernel_rfl
theorem ahC [Env] (A:Nat→List SV→Prop) (Q:V→Prop) (l m:List aj) (c i:Int):WL Tryz.prog 154 Tryz.f154 F2 0 BF A (fun v _=>Q v) 0 [.val (ae aj.enc 7 l),.val (ae aj.enc 7 m),.val (.int .i64 c),.val (.int .i64 i)]=
  (((.i64:IntKind)=.i64∧aa (decide (i<c)) (((0≤i∧i<((l.length:Nat):Int))∧((0≤i∧i<((m.length:Nat):Int))∧aa (decide (((l.getD i.toNat default).f0)=((m.getD i.toNat default).f0))) (((.i64:IntKind)=.i64∧aa (decide (((l.getD i.toNat default).f1)=((m.getD i.toNat default).f1))) (aa ((l.getD i.toNat default).f2==(m.getD i.toNat default).f2) (((.i64:IntKind)=.i64∧aa (decide (((l.getD i.toNat default).f3.f0)=((m.getD i.toNat default).f3.f0))) (((.i64:IntKind)=.i64∧aa (decide (((l.getD i.toNat default).f3.f1)=((m.getD i.toNat default).f3.f1))) (((.u64:IntKind)=.u64∧aa (decide (((l.getD i.toNat default).f3.f2)=((m.getD i.toNat default).f3.f2))) (aa (decide (((l.getD i.toNat default).f3.f3)=((m.getD i.toNat default).f3.f3))) (A 0 [.val (ae aj.enc 7 l),.val (ae aj.enc 7 m),.val (.int .i64 c),.val (.int .i64 (IntKind.i64.wrap (i+(1:Int))))]) (Q (.bool false))) (Q (.bool false)))) (Q (.bool false)))) (Q (.bool false)))) (Q (.bool false))) (Q (.bool false)))) (Q (.bool false))))) (Q (.bool true)))):=by kernel_rfl
def Z7 [Env] (vs:List V) (σ:St) (k:ah):Prop:=
 ∃x y:List aj,vs=[ae aj.enc 7 x,ae aj.enc 7 y]∧x.length≤1000000∧∀b:Bool,(b=true↔x=y)→k (.bool b) σ
def F3 [Env]:=kS 154 Z7 F2
def F4:Nat→List Nat:=(fun i=>match i with | 0=>[0,1,5] | _=>[])
theorem e33 [Env] (A:Nat→List SV→Prop) (Q:V→Prop) (l m:List (List UInt8)):WE Tryz.prog 33 Tryz.f33 F3 0 F4 A (fun v _=>Q v) [ae V.str 1 l,ae V.str 1 m] Go.Ev.start=
  (((.i64:IntKind)=.i64∧aa (decide ((((l.length:Nat):Int))≠(((m.length:Nat):Int)))) (Q (.bool false)) (A 0 [.val (ae V.str 1 l),.val (ae V.str 1 m),.val (.int .i64 (0:Int))]))):=by kernel_rfl
theorem r33 [Env] (A:Nat→List SV→Prop) (Q:V→Prop) (l m:List (List UInt8)) (i:Int):WL Tryz.prog 33 Tryz.f33 F3 0 F4 A (fun v _=>Q v) 0 [.val (ae V.str 1 l),.val (ae V.str 1 m),.val (.int .i64 i)]=
  (((.i64:IntKind)=.i64∧aa (decide (i<(((l.length:Nat):Int)))) (((0≤i∧i<((l.length:Nat):Int))∧((0≤i∧i<((m.length:Nat):Int))∧aa (decide ((l.getD i.toNat default)≠(m.getD i.toNat default))) (Q (.bool false)) (A 0 [.val (ae V.str 1 l),.val (ae V.str 1 m),.val (.int .i64 (IntKind.i64.wrap (i+(1:Int))))])))) (Q (.bool true)))):=by kernel_rfl
def W33 [Env] (vs:List V) (σ:St) (k:ah):Prop:=
 ∃x y:List (List UInt8),vs=[ae V.str 1 x,ae V.str 1 y]∧x.length≤1000000∧∀b:Bool,(b=true↔x=y)→k (.bool b) σ
def Mz [Env]:=kS 33 W33 F3
def J3:Nat→List Nat:=(fun _=>[])
theorem ahD [Env] (A:Nat→List SV→Prop) (Q:V→St→Prop) (t:af) (e:Int):WE Tryz.prog 301 Tryz.f301 Mz 0 J3 A Q [af.enc t,.int .i64 e] Go.Ev.start=
  (((.i64:IntKind)=.i64∧aa (decide (e≠(0:Int))) (Q (.tuple [.ak,.int .i64 e]) ⟨(St.new Go.Ev.start 0 (.cells 3 [] (ai (af.cells t) .leaf 0) true false)).heap,1⟩) (Q (.tuple [.slice 1 0 (1) (1) true 3,.int .i64 (0:Int)]) ⟨(St.new (St.new Go.Ev.start 0 (.cells 3 [] (ai (af.cells t) .leaf 0) true false)) 1 (.cells 3 [] (ai (af.cells t) .leaf 0) true false)).heap,2⟩))):=by kernel_rfl
def Z8 [Env] (vs:List V) (σ:St) (k:ah):Prop:=
 ∃(t:af) (e:Int),bH σ vs [af.enc t,.int .i64 e]∧(e=0→k (.tuple [.own σ.next 1 3,.int .i64 0]) ((void σ.next).new σ.next (.row 1 (fun i=>af.enc ([t].getD i default)) 3 false)))∧(e≠0→k (.tuple [.ak,.int .i64 e]) (void σ.next))
def MA [Env]:=kS 301 Z8 Mz
def J4:Nat→List Nat:=(fun _=>[])
theorem ahE [Env] (A:Nat→List SV→Prop) (Q:V→St→Prop) (c:an):WE Tryz.prog 299 Tryz.f299 MA 0 J4 A Q [an.enc c] Go.Ev.start=
  (Q (.ak) ⟨(St.new Go.Ev.start 0 (.cells 18 [] (ai (an.cells c) .leaf 0) true false)).heap,1⟩):=by kernel_rfl
def Z9 [Env] (vs:List V) (σ:St) (k:ah):Prop:=
 ∃c:an,vs=[an.enc c]∧k (ae V.str 1 (([]:List (List UInt8)))) σ
def MB [Env]:=kS 299 Z9 MA
def J5:Nat→List Nat:=(fun _=>[])
theorem ahF [Env] (A:Nat→List SV→Prop) (Q:V→St→Prop) (c:an):WE Tryz.prog 302 Tryz.f302 MB 0 J5 A Q [an.enc c] Go.Ev.start=
  (Q (.slice 1 0 (1) (1) true 1) ⟨(St.new (St.new Go.Ev.start 0 (.cells 18 [] (ai (an.cells c) .leaf 0) true false)) 1 (.cells 1 [] (ai [.str c.f1] .leaf 0) true false)).heap,2⟩):=by kernel_rfl
def aaa [Env] (vs:List V) (σ:St) (k:ah):Prop:=
 ∃c:an,vs=[an.enc c]∧k (ae V.str 1 ([c.f1])) σ
def MC [Env]:=kS 302 aaa MB
def J6:Nat→List Nat:=(fun _=>[])
theorem ahG [Env] (A:Nat→List SV→Prop) (Q:V→St→Prop) (c:an):WE Tryz.prog 305 Tryz.f305 MC 0 J6 A Q [an.enc c] Go.Ev.start=
  (Q (.slice 1 0 (1) (1) true 1) ⟨(St.new (St.new Go.Ev.start 0 (.cells 18 [] (ai (an.cells c) .leaf 0) true false)) 1 (.cells 1 [] (ai [.str c.f1] .leaf 0) true false)).heap,2⟩):=by kernel_rfl
def aab [Env] (vs:List V) (σ:St) (k:ah):Prop:=
 ∃c:an,vs=[an.enc c]∧k (ae V.str 1 ([c.f1])) σ
def MD [Env]:=kS 305 aab MC
def J7:Nat→List Nat:=(fun _=>[])
theorem ahH [Env] (A:Nat→List SV→Prop) (Q:V→St→Prop) (c:an):WE Tryz.prog 308 Tryz.f308 MD 0 J7 A Q [an.enc c] Go.Ev.start=
  (Q (.slice 1 0 (1) (1) true 1) ⟨(St.new (St.new Go.Ev.start 0 (.cells 18 [] (ai (an.cells c) .leaf 0) true false)) 1 (.cells 1 [] (ai [.str c.f1] .leaf 0) true false)).heap,2⟩):=by kernel_rfl
def aac [Env] (vs:List V) (σ:St) (k:ah):Prop:=
 ∃c:an,vs=[an.enc c]∧k (ae V.str 1 ([c.f1])) σ
def ME [Env]:=kS 308 aac MD
def J8:Nat→List Nat:=(fun _=>[])
theorem ahI [Env] (A:Nat→List SV→Prop) (Q:V→St→Prop) (c:an):WE Tryz.prog 310 Tryz.f310 ME 0 J8 A Q [an.enc c] Go.Ev.start=
  (Q (.slice 1 0 (1) (1) true 1) ⟨(St.new (St.new Go.Ev.start 0 (.cells 18 [] (ai (an.cells c) .leaf 0) true false)) 1 (.cells 1 [] (ai [.str c.f1] .leaf 0) true false)).heap,2⟩):=by kernel_rfl
def aad [Env] (vs:List V) (σ:St) (k:ah):Prop:=
 ∃c:an,vs=[an.enc c]∧k (ae V.str 1 ([c.f1])) σ
def Dk [Env]:=kS 310 aad ME
def J9:Nat→List Nat:=(fun _=>[])
theorem ahJ [Env] (A:Nat→List SV→Prop) (Q:V→St→Prop) (c:an):WE Tryz.prog 313 Tryz.f313 Dk 0 J9 A Q [an.enc c] Go.Ev.start=
  (Q (.slice 1 0 (2) (2) true 1) ⟨(St.new (St.new Go.Ev.start 0 (.cells 18 [] (ai (an.cells c) .leaf 0) true false)) 1 (.cells 2 [] (ai [.str c.f1,.str c.f2] .leaf 0) true false)).heap,2⟩):=by kernel_rfl
def aae [Env] (vs:List V) (σ:St) (k:ah):Prop:=
 ∃c:an,vs=[an.enc c]∧k (ae V.str 1 ([c.f1,c.f2])) σ
def Dl [Env]:=kS 313 aae Dk
def O7:Nat→List Nat:=(fun _=>[])
theorem e71 [Env] (A:Nat→List SV→Prop) (Q:V→St→Prop) (c:an):WE Tryz.prog 71 Tryz.f71 Dl 0 O7 A Q [an.enc c] Go.Ev.start=
  (((.i64:IntKind)=.i64∧aa (decide (c.f0=(1:Int))) (Q (.iface 159 (.agg (an.cells c))) ⟨(St.new Go.Ev.start 0 (.cells 18 [] (ai (an.cells c) .leaf 0) true false)).heap,1⟩) (((.i64:IntKind)=.i64∧aa (decide (c.f0=(2:Int))) (Q (.iface 160 (.agg (an.cells c))) ⟨(St.new Go.Ev.start 0 (.cells 18 [] (ai (an.cells c) .leaf 0) true false)).heap,1⟩) (((.i64:IntKind)=.i64∧aa (decide (c.f0=(3:Int))) (Q (.iface 161 (.agg (an.cells c))) ⟨(St.new Go.Ev.start 0 (.cells 18 [] (ai (an.cells c) .leaf 0) true false)).heap,1⟩) (((.i64:IntKind)=.i64∧aa (decide (c.f0=(4:Int))) (Q (.iface 162 (.agg (an.cells c))) ⟨(St.new Go.Ev.start 0 (.cells 18 [] (ai (an.cells c) .leaf 0) true false)).heap,1⟩) (((.i64:IntKind)=.i64∧aa (decide (c.f0=(5:Int))) (Q (.iface 163 (.agg (an.cells c))) ⟨(St.new Go.Ev.start 0 (.cells 18 [] (ai (an.cells c) .leaf 0) true false)).heap,1⟩) (((.i64:IntKind)=.i64∧aa (decide (c.f0=(6:Int))) (Q (.iface 164 (.agg (an.cells c))) ⟨(St.new Go.Ev.start 0 (.cells 18 [] (ai (an.cells c) .leaf 0) true false)).heap,1⟩) (Q (.bh) ⟨(St.new Go.Ev.start 0 (.cells 18 [] (ai (an.cells c) .leaf 0) true false)).heap,1⟩))))))))))))):=by kernel_rfl
def W71 [Env] (vs:List V) (σ:St) (k:ah):Prop:=
 ∃c:an,vs=[an.enc c]∧(c.f0=1→k (.iface 159 (an.enc c)) σ)∧(c.f0=2→k (.iface 160 (an.enc c)) σ)∧(c.f0=3→k (.iface 161 (an.enc c)) σ)∧(c.f0=4→k (.iface 162 (an.enc c)) σ)∧(c.f0=5→k (.iface 163 (an.enc c)) σ)∧(c.f0=6→k (.iface 164 (an.enc c)) σ)∧((c.f0<1∨6<c.f0)→k .bh σ)
def pe [Env]:=kS 71 W71 Dl
def qh:Nat→List Nat:=(fun _=>[])
theorem acS [Env] (A:Nat→List SV→Prop) (Q:V→Prop) (c:an):WE Tryz.prog 72 Tryz.f72 pe 0 qh A (fun v _=>Q v) [.iface 159 (an.enc c)] Go.Ev.start=
  (Q (.bool true)):=by kernel_rfl
theorem acT [Env] (A:Nat→List SV→Prop) (Q:V→Prop) (c:an):WE Tryz.prog 72 Tryz.f72 pe 0 qh A (fun v _=>Q v) [.iface 160 (an.enc c)] Go.Ev.start=
  (Q (.bool false)):=by kernel_rfl
theorem acU [Env] (A:Nat→List SV→Prop) (Q:V→Prop) (c:an):WE Tryz.prog 72 Tryz.f72 pe 0 qh A (fun v _=>Q v) [.iface 161 (an.enc c)] Go.Ev.start=
  (Q (.bool false)):=by kernel_rfl
theorem acV [Env] (A:Nat→List SV→Prop) (Q:V→Prop) (c:an):WE Tryz.prog 72 Tryz.f72 pe 0 qh A (fun v _=>Q v) [.iface 162 (an.enc c)] Go.Ev.start=
  (Q (.bool false)):=by kernel_rfl
theorem acW [Env] (A:Nat→List SV→Prop) (Q:V→Prop) (c:an):WE Tryz.prog 72 Tryz.f72 pe 0 qh A (fun v _=>Q v) [.iface 163 (an.enc c)] Go.Ev.start=
  (Q (.bool false)):=by kernel_rfl
theorem acX [Env] (A:Nat→List SV→Prop) (Q:V→Prop) (c:an):WE Tryz.prog 72 Tryz.f72 pe 0 qh A (fun v _=>Q v) [.iface 164 (an.enc c)] Go.Ev.start=
  (Q (.bool false)):=by kernel_rfl
def W72 [Env] (vs:List V) (σ:St) (k:ah):Prop:=
 match vs with
 | [.iface t _]=>∃c:an,vs=[.iface t (an.enc c)]∧(t=159∨t=160∨t=161∨t=162∨t=163∨t=164)∧k (.bool (Nat.beq t 159)) σ
 | _=>False
def Dm [Env]:=kS 72 W72 pe
def O8:Nat→List Nat:=(fun _=>[])
theorem e34 [Env] (A:Nat→List SV→Prop) (Q:V→St→Prop) (c:an):WE Tryz.prog 34 Tryz.f34 Dm 0 O8 A Q [an.enc c] Go.Ev.start=
  ((∃lX:an,[.agg (an.cells c)]=[an.enc lX]∧(lX.f0=1→(∃ahK:an,[an.enc lX]=[an.enc ahK]∧Q (ae V.str 1 ((([]:List (List UInt8))))) ⟨(St.new Go.Ev.start 0 (.cells 18 [] (ai (an.cells c) .leaf 0) true false)).heap,1⟩))∧(lX.f0=2→(∃aag:an,[an.enc lX]=[an.enc aag]∧Q (ae V.str 1 (([aag.f1]))) ⟨(St.new Go.Ev.start 0 (.cells 18 [] (ai (an.cells c) .leaf 0) true false)).heap,1⟩))∧(lX.f0=3→(∃aah:an,[an.enc lX]=[an.enc aah]∧Q (ae V.str 1 (([aah.f1]))) ⟨(St.new Go.Ev.start 0 (.cells 18 [] (ai (an.cells c) .leaf 0) true false)).heap,1⟩))∧(lX.f0=4→(∃aai:an,[an.enc lX]=[an.enc aai]∧Q (ae V.str 1 (([aai.f1]))) ⟨(St.new Go.Ev.start 0 (.cells 18 [] (ai (an.cells c) .leaf 0) true false)).heap,1⟩))∧(lX.f0=5→(∃aaj:an,[an.enc lX]=[an.enc aaj]∧Q (ae V.str 1 (([aaj.f1]))) ⟨(St.new Go.Ev.start 0 (.cells 18 [] (ai (an.cells c) .leaf 0) true false)).heap,1⟩))∧(lX.f0=6→(∃Sf:an,[an.enc lX]=[an.enc Sf]∧Q (ae V.str 1 (([Sf.f1,Sf.f2]))) ⟨(St.new Go.Ev.start 0 (.cells 18 [] (ai (an.cells c) .leaf 0) true false)).heap,1⟩))∧((lX.f0<1∨6<lX.f0)→Q (.ak) ⟨(St.new Go.Ev.start 0 (.cells 18 [] (ai (an.cells c) .leaf 0) true false)).heap,1⟩))):=by kernel_rfl
def W34 [Env] (vs:List V) (σ:St) (k:ah):Prop:=
 ∃c:an,vs=[an.enc c]∧k (ae V.str 1 (bt c)) σ
def Dn [Env]:=kS 34 W34 Dm
def O9:Nat→List Nat:=(fun _=>[])
theorem Uz [Env] (A:Nat→List SV→Prop) (Q:V→St→Prop) (c:an):WE Tryz.prog 35 Tryz.f35 Dn 0 O9 A Q [an.enc c] Go.Ev.start=
  (((.i64:IntKind)=.i64∧aa (decide (c.f0=(2:Int))) (Q (.slice 1 0 (1) (1) true 1) ⟨(St.new (St.new Go.Ev.start 0 (.cells 18 [] (ai (an.cells c) .leaf 0) true false)) 1 (.cells 1 [] (ai [.str c.f1] .leaf 0) true false)).heap,2⟩) (((.i64:IntKind)=.i64∧aa (decide (c.f0=(3:Int))) (Q (.slice 1 0 (1) (1) true 1) ⟨(St.new (St.new Go.Ev.start 0 (.cells 18 [] (ai (an.cells c) .leaf 0) true false)) 1 (.cells 1 [] (ai [.str c.f1] .leaf 0) true false)).heap,2⟩) (((.i64:IntKind)=.i64∧aa (decide (c.f0=(4:Int))) (Q (.slice 1 0 (1) (1) true 1) ⟨(St.new (St.new Go.Ev.start 0 (.cells 18 [] (ai (an.cells c) .leaf 0) true false)) 1 (.cells 1 [] (ai [.str c.f1] .leaf 0) true false)).heap,2⟩) (((.i64:IntKind)=.i64∧aa (decide (c.f0=(5:Int))) (Q (.slice 1 0 (1) (1) true 1) ⟨(St.new (St.new Go.Ev.start 0 (.cells 18 [] (ai (an.cells c) .leaf 0) true false)) 1 (.cells 1 [] (ai [.str c.f1] .leaf 0) true false)).heap,2⟩) (((.i64:IntKind)=.i64∧aa (decide (c.f0=(6:Int))) (Q (.slice 1 0 (2) (2) true 1) ⟨(St.new (St.new Go.Ev.start 0 (.cells 18 [] (ai (an.cells c) .leaf 0) true false)) 1 (.cells 2 [] (ai [.str c.f1,.str c.f2] .leaf 0) true false)).heap,2⟩) (Q (.ak) ⟨(St.new Go.Ev.start 0 (.cells 18 [] (ai (an.cells c) .leaf 0) true false)).heap,1⟩))))))))))):=by kernel_rfl
def W35 [Env] (vs:List V) (σ:St) (k:ah):Prop:=
 ∃c:an,vs=[an.enc c]∧k (ae V.str 1 (bt c)) σ
def Dp [Env]:=kS 35 W35 Dn
end Go.Proofs.YtbajncpfmemdgaaGreatDoor
end
section
namespace Go.Proofs.YtbajncpfmemdgaaGreatDoor
open Go Go.Ev Go.IntWalk
theorem F122:bl Tryz.prog 122 Tryz.f122:=.of (by kernel_rfl) (by kernel_rfl)
theorem F73:bl Tryz.prog 73 Tryz.f73:=.of (by kernel_rfl) (by kernel_rfl)
theorem F250:bl Tryz.prog 250 Tryz.f250:=.of (by kernel_rfl) (by kernel_rfl)
theorem F226:bl Tryz.prog 226 Tryz.f226:=.of (by kernel_rfl) (by kernel_rfl)
theorem F127:bl Tryz.prog 127 Tryz.f127:=.of (by kernel_rfl) (by kernel_rfl)
theorem F74:bl Tryz.prog 74 Tryz.f74:=.of (by kernel_rfl) (by kernel_rfl)
theorem F128:bl Tryz.prog 128 Tryz.f128:=.of (by kernel_rfl) (by kernel_rfl)
theorem F307:bl Tryz.prog 307 Tryz.f307:=.of (by kernel_rfl) (by kernel_rfl)
theorem F304:bl Tryz.prog 304 Tryz.f304:=.of (by kernel_rfl) (by kernel_rfl)
theorem F312:bl Tryz.prog 312 Tryz.f312:=.of (by kernel_rfl) (by kernel_rfl)
theorem F154:bl Tryz.prog 154 Tryz.f154:=.of (by kernel_rfl) (by kernel_rfl)
theorem F33:bl Tryz.prog 33 Tryz.f33:=.of (by kernel_rfl) (by kernel_rfl)
theorem F301:bl Tryz.prog 301 Tryz.f301:=.of (by kernel_rfl) (by kernel_rfl)
theorem F299:bl Tryz.prog 299 Tryz.f299:=.of (by kernel_rfl) (by kernel_rfl)
theorem F302:bl Tryz.prog 302 Tryz.f302:=.of (by kernel_rfl) (by kernel_rfl)
theorem F305:bl Tryz.prog 305 Tryz.f305:=.of (by kernel_rfl) (by kernel_rfl)
theorem F308:bl Tryz.prog 308 Tryz.f308:=.of (by kernel_rfl) (by kernel_rfl)
theorem F310:bl Tryz.prog 310 Tryz.f310:=.of (by kernel_rfl) (by kernel_rfl)
theorem F313:bl Tryz.prog 313 Tryz.f313:=.of (by kernel_rfl) (by kernel_rfl)
theorem F71:bl Tryz.prog 71 Tryz.f71:=.of (by kernel_rfl) (by kernel_rfl)
theorem F72:bl Tryz.prog 72 Tryz.f72:=.of (by kernel_rfl) (by kernel_rfl)
theorem F34:bl Tryz.prog 34 Tryz.f34:=.of (by kernel_rfl) (by kernel_rfl)
theorem F35:bl Tryz.prog 35 Tryz.f35:=.of (by kernel_rfl) (by kernel_rfl)
section
variable [Env] [aZ] {vs:List V} {σ:St} {k:ah}
theorem aak (h:W27 vs σ k):ag Tryz.prog 27 vs k σ:=by
 obtain⟨l,rfl⟩:=h.1
 have hc:Go.Ev.Clean (ae af.enc 3 l):=cF l
 refine v9 (yi hc) ?_ h
 by_cases hl:l.length≤20
 ·refine F27.cf (live:=zT) (call:=Bx) (n₀:=0) (fun h=>Bz h) rfl 1 (by kernel_rfl) Nat.lt_wfRel.wf (fun _ ss=>30-cb ss) (Uf af.enc 3 l) (wa hc) ?_ ?_
  ·rw[Yn]
   exact⟨rfl,aa.mk (fun e=>absurd (of_decide_eq_true e) (by omega)) fun _=>⟨0,by omega,by omega,rfl⟩⟩
  ·intro k hk ss hI
   obtain rfl:k=0:=by omega
   obtain⟨i,h0,h1,rfl⟩:=hI
   rw[r27]
   refine⟨rfl,aa.mk (fun e=>?_) fun _=>z1⟩
   have e:=of_decide_eq_true e
   refine⟨⟨h0,e⟩,⟨_,rfl⟩,⟨rfl,z0⟩,rfl,⟨i+1,by omega,by omega,by rw[i64_in _ (by omega)]⟩,?_⟩
   rw[i64_in _ (by omega),mj,mj]
   show 30-(i+1).toNat<30-i.toNat
   omega
 ·refine F27.cf (live:=zT) (call:=Bx) (n₀:=0) (fun h=>Bz h) rfl 1 (by kernel_rfl) Nat.lt_wfRel.wf (fun _ _=>0) (fun _ _=>False) (fun _ _ h=>h.elim) ?_ fun _ _ _ h=>h.elim
  rw[Yn]
  exact⟨rfl,aa.mk (fun _=>z0) fun e=>absurd (of_decide_eq_false e) (by omega)⟩
theorem Ka:∀ {f:FuncId} {vs:List V} {σ:St} {k:ah},FT f vs σ k→ag Tryz.prog f vs k σ:=fun h=>aH aak Bz h
def ahL (s:List UInt8) (n:Nat) (q:Nat→List UInt8):Nat→List SV→Prop
 | 0,ss=>∃i:Nat,i≤n∧(∀j,j<i→q j≠s)∧ss=[.val (V.arr n (fun i=>V.str (q i)) 1 false false),.val (.str s),.val (.int .i64 ((n:Nat):Int)),.val (.int .i64 i)]
 | _,_=>False
theorem Ws (h:RK vs σ k):ag Tryz.prog 122 vs k σ:=by
 unfold RK at h
 split at h
 ·rename_i n f s
  obtain⟨q,rfl,hn,h⟩:=h
  refine ag.cj (av (mh n q) (av (Go.Ev.Clean.str _) aM)) (.int _ _) ?_ h
  refine F122.cf (live:=BC) (call:=FT) (n₀:=0) (σ:=Go.Ev.start) (fun h=>Ka h) rfl 1 (by kernel_rfl) Nat.lt_wfRel.wf (fun _ ss=>n-cb ss) (ahL s n q) ?_ ?_ ?_
  ·intro k ss hI
   cases k with
   | zero=>obtain⟨i,_,_,rfl⟩:=hI;exact pq (gD (aG (aG bG)))
   | succ k=>exact hI.elim
  ·rw[ahs]
   exact⟨0,by omega,fun j hj=>absurd hj (Nat.not_lt_zero j),rfl⟩
  ·intro k hk ss hI
   obtain rfl:k=0:=by omega
   obtain⟨i,hi,hj,rfl⟩:=hI
   rw[aht]
   refine⟨rfl,aq (fun h1=>⟨⟨by omega,by omega⟩,aq (fun h2=>?_) fun h2=>?_⟩) fun h1=>?_⟩
   ·rw[dJ] at h2
    rw[kU s q n i (by omega) h2.symm hj]
   ·rw[dJ] at h2
    rw[i64_in ((i:Int)+1) (by omega)]
    refine⟨⟨i+1,by omega,fun j gS=>?_,rfl⟩,?_⟩
    ·by_cases e:j=i
     ·rw[e];exact fun h=>h2 h.symm
     ·exact hj j (by omega)
    ·show n-((i:Int)+1).toNat<n-(i:Int).toNat
     omega
   ·obtain rfl:i=n:=by omega
    rw[iI s q i hj]
 ·exact h.elim
theorem Kb:∀ {f:FuncId} {vs:List V} {σ:St} {k:ah},Mu f vs σ k→ag Tryz.prog f vs k σ:=fun h=>aH Ws Ka h
theorem aal (h:ZX vs σ k):ag Tryz.prog 73 vs k σ:=by
 unfold ZX at h
 split at h
 ·rename_i n f s
  obtain⟨q,rfl,hn,h⟩:=h
  refine ag.cj (av (mh n q) (av (Go.Ev.Clean.str _) aM)) (.bool _) (F73.flat (live:=O6) (call:=Mu) (n₀:=0) (σ:=Go.Ev.start) (fun h=>Kb h) rfl (by kernel_rfl) ?_) h
  rw[e73]
  exact⟨q,rfl,hn,rfl,aq (fun h=>by rw[decide_eq_true h]) fun h=>by rw[decide_eq_false h]⟩
 ·exact h.elim
theorem Kc:∀ {f:FuncId} {vs:List V} {σ:St} {k:ah},Mv f vs σ k→ag Tryz.prog f vs k σ:=fun h=>aH aal Kb h
theorem Wt (h:RL vs σ k):ag Tryz.prog 250 vs k σ:=by
 unfold RL at h
 split at h
 ·rename_i n f s
  obtain⟨q,rfl,hn,h⟩:=h
  refine ag.cj (av (mh n q) (av (Go.Ev.Clean.str _) aM)) (.int _ _) (F250.flat (live:=JZ) (call:=Mv) (n₀:=0) (σ:=Go.Ev.start) (fun h=>Kc h) rfl (by kernel_rfl) ?_) h
  rw[ahu]
  exact⟨q,rfl,hn,rfl⟩
 ·exact h.elim
theorem Kd:∀ {f:FuncId} {vs:List V} {σ:St} {k:ah},Mw f vs σ k→ag Tryz.prog f vs k σ:=fun h=>aH Wt Kc h
theorem Ke (h:Z1 vs σ k):ag Tryz.prog 226 vs k σ:=by
 obtain⟨t,s,rfl,hn,h⟩:=h
 refine ag.cj (av t.aJ (av (Go.Ev.Clean.str _) aM)) (.int _ _) (F226.flat (live:=J0) (call:=Mw) (n₀:=0) (σ:=Go.Ev.start) (fun h=>Kd h) rfl (by kernel_rfl) ?_) h
 rw[ahv]
 exact⟨_,rfl,hn,_,rfl,by omega,rfl⟩
theorem Kf:∀ {f:FuncId} {vs:List V} {σ:St} {k:ah},Mx f vs σ k→ag Tryz.prog f vs k σ:=fun h=>aH Ke Kd h
theorem Wu (h:Z3 vs σ k):ag Tryz.prog 127 vs k σ:=by
 obtain⟨t,s,rfl,hn,h⟩:=h
 refine ag.cj (av t.aJ (av (Go.Ev.Clean.str _) aM)) (.int _ _) (F127.flat (live:=J1) (call:=Mx) (n₀:=0) (σ:=Go.Ev.start) (fun h=>Kf h) rfl (by kernel_rfl) ?_) h
 rw[ahw]
 exact⟨_,rfl,hn,_,rfl,by omega,rfl⟩
theorem BG:∀ {f:FuncId} {vs:List V} {σ:St} {k:ah},FY f vs σ k→ag Tryz.prog f vs k σ:=fun h=>aH Wu Kf h
omit [aZ] in
theorem g8 {τ:St} {cs:List V} (h:∀v∈cs,Go.Ev.Clean v):bH τ cs cs:=bH.clean h
omit [aZ] in
theorem bd.row {σ:St} {k:ah} {v:V} {τ:St} {b n esz:Nat} {g:Nat→V} (h:nD τ b n g esz v) (hk:k (.own σ.next n esz) (σ.new σ.next (.row n g esz false))):bd σ k v τ:=.inr (.inl ⟨_,_,_,_,h,hk⟩)
omit [aZ] in
theorem bd.pair {σ:St} {k:ah} {w e e':V} {τ:St} {b n esz:Nat} {g:Nat→V} (h:nD τ b n g esz w) (he:ey (τ.kill b) e e') (hk:k (.tuple [.own σ.next n esz,e']) (σ.new σ.next (.row n g esz false))):bd σ k (.tuple [w,e]) τ:=.inr (.inr ⟨_,_,_,_,_,_,_,rfl,h,he,hk⟩)
omit [aZ] in
theorem bd.fZ {σ:St} {k:ah} {v u:V} {τ:St} (h:ey τ v u) (hk:k u σ):bd σ k v τ:=.inl ⟨_,h,hk⟩
omit [aZ] in
theorem Pa {n:Nat} {f:Nat→V} {esz:Nat} {ex:Bool} {x:Value} {ρ:Go.Ev.aA} (hn:0<n) (h:au ρ (.arr n f esz ex false) x):au ρ (.arr n f esz ex true) x:=by
 cases h with
 | arr _ h=>
  refine .arr (fun _=>?_) h
  have hl:=bg n f
  generalize cn n f=es at h hl
  cases h with
  | bX hu hx hi hc he=>exact⟨_,_,_,rfl⟩
  | dP=>simp at hl;omega
  | dt he=>simp at hl;omega
theorem aam (h:W74 vs σ k):ag Tryz.prog 74 vs k σ:=by
 obtain⟨l,rfl,hn,h⟩:=h
 refine ag.aQ (us:=[ae aj.enc 7 l]) (av (fg l) aM) (bW.imp (us:=[Ls aj.enc 7 l]) (fun ρ xs hx=>?_) (F74.ck (live:=FZ) (call:=FY) (fun h=>BG h) (by kernel_rfl) ?_))
 ·cases hx with
  | cons h1 h2=>exact .cons (Pa hn.1 h1) h2
 ·rw[e74]
  refine aq (fun h1=>by omega) fun h1=>⟨by omega,bd.row (.own (f:=fun i=>aj.enc (l.getD i default)) (g:=fun i=>aj.enc (l.getD i default)) (p:=true) (by rfl) fun i hi=>g8 (aj.clean _)) h⟩
theorem Kg:∀ {f:FuncId} {vs:List V} {σ:St} {k:ah},BD f vs σ k→ag Tryz.prog f vs k σ:=fun h=>aH aam BG h
omit [Env] [aZ] in
theorem bu.one (x:aj):bu 1 (fun _=>.agg (aj.cells x)) [x]:=⟨rfl,fun i hi=>by
 obtain rfl:=Nat.lt_one_iff.1 hi
 rfl⟩
omit [Env] [aZ] in
theorem bu.push {n:Nat} {f:Nat→V} {l:List aj} (h:bu n f l) (x:aj):bu (n+1) (dL n f fun _=>.agg (aj.cells x)) (l++[x]):=by
 obtain⟨rfl,h2⟩:=h
 refine⟨by simp,fun i hi=>?_⟩
 by_cases e:i=l.length
 ·subst e;rw[Ba];simp [List.getD_eq_getElem?_getD];rfl
 ·rw[A9 _ _ (by omega),h2 i (by omega)]
  simp [List.getD_eq_getElem?_getD,List.getElem?_append_left (show i<l.length by omega)]
omit [aZ] in
theorem bu.cl {n:Nat} {f:Nat→V} {l:List aj} (h:bu n f l):∀i,i<n→∀u∈(f i).cells,Go.Ev.Clean u:=fun i hi u hu=>by
 rw[h.2 i hi] at hu;exact aj.clean _ u hu
omit [Env] [aZ] in
theorem bu.len {n:Nat} {f:Nat→V} {l:List aj} (h:bu n f l) {i:Nat} (hi:i<n):(f i).cells.length=7:=by rw[h.2 i hi];rfl
def rr (l:List aj) (a:Int) (n:Nat):List aj:=br (fun i=>decide ((i:Int)≠a)) (fun i=>l.getD i default) n
def ahM (l:List aj) (a:Int):Nat→List SV→Prop
 | 0,ss=>∃i:Nat,i≤l.length∧((rr l a i=[]∧ss=[.val (ae aj.enc 7 l),.val (.int .i64 a),.val .ak,.val (.int .i64 (i:Int))])∨
   ∃n f,0<n∧bu n f (rr l a i)∧ss=[.val (ae aj.enc 7 l),.val (.int .i64 a),.row n f 7,.val (.int .i64 (i:Int))])
 | _,_=>False
omit [Env] [aZ] in
theorem lY {α:Type} (p:Nat→Bool) (q:Nat→α):∀n,(br p q n).length≤n
 | 0=>Nat.le_refl _
 | n+1=>by
  show(if p n=true then br p q n++[q n] else br p q n).length≤n+1
  have:=lY p q n
  split
  ·simp;omega
  ·omega
omit [Env] [aZ] in
theorem BH {α:Type} {p:Nat→Bool} {q:Nat→α} {n:Nat} (h:p n=true):br p q (n+1)=br p q n++[q n]:=if_pos h
omit [Env] [aZ] in
theorem F6 {α:Type} {p:Nat→Bool} {q:Nat→α} {n:Nat} (h:¬p n=true):br p q (n+1)=br p q n:=if_neg h
theorem Wv (h:Z4 vs σ k):ag Tryz.prog 128 vs k σ:=by
 obtain⟨l,a,rfl,hn,h1,h2⟩:=h
 refine ag.aQ (av (fg l) (av (Go.Ev.Clean.int _ _) aM)) (F128.jR (live:=xa) (call:=BD) (fun h=>Kg h) 1 (by kernel_rfl) Nat.lt_wfRel.wf (fun _ ss=>l.length-cb ss) (ahM l a) ?_ ?_ ?_)
 ·intro k ss hI
  cases k with
  | zero=>
   obtain⟨i,_,⟨_,rfl⟩ | ⟨n,f,_,hr,rfl⟩⟩:=hI
   ·exact aN (fg l) (aG (aN Go.Ev.Clean.ak (aG bG)))
   ·exact aN (fg l) (aG (aN (hr.cl) (aG bG)))
  | succ k=>exact hI.elim
 ·rw[ahx]
  exact⟨0,by omega,.inl ⟨rfl,rfl⟩⟩
 ·intro k hk ss hI
  obtain rfl:k=0:=by omega
  obtain⟨i,hi,⟨he,rfl⟩ | ⟨n,f,h0,hr,rfl⟩⟩:=hI
  ·rw[acQ]
   refine⟨rfl,aq (fun h3=>⟨rfl,aq (fun h4=>⟨⟨by omega,by omega⟩,⟨rfl,rfl,rfl⟩,?_⟩) fun h4=>?_⟩) fun h3=>?_⟩
   ·rw[dJ,i64_in ((i:Int)+1) (by omega)]
    refine⟨⟨i+1,by omega,.inr ⟨1,_,by omega,?_,rfl⟩⟩,?_⟩
    ·have:rr l a (i+1)=[l.getD i default]:=(BH (decide_eq_true h4)).trans (by show rr l a i++_=_;rw[he];rfl)
     rw[this];exact bu.one _
    ·show l.length-((i:Int)+1).toNat<l.length-(i:Int).toNat
     omega
   ·rw[i64_in ((i:Int)+1) (by omega)]
    refine⟨⟨i+1,by omega,.inl ⟨(F6 (by rw[decide_eq_false h4];exact Bool.false_ne_true)).trans he,rfl⟩⟩,?_⟩
    show l.length-((i:Int)+1).toNat<l.length-(i:Int).toNat
    omega
   ·obtain rfl:i=l.length:=by omega
    exact bd.fZ .ak (h1 he)
  ·rw[acR]
   have DR:n≤1000:=by
    have:=lY (fun i=>decide ((i:Int)≠a)) (fun i=>l.getD i default) i
    have h3:n=(rr l a i).length:=hr.1
    unfold rr at h3
    omega
   refine⟨rfl,aq (fun h3=>⟨rfl,aq (fun h4=>⟨⟨by omega,by omega⟩,⟨rfl,by omega⟩,⟨rfl,rfl⟩,?_⟩) fun h4=>⟨⟨rfl,rfl⟩,?_⟩⟩) fun h3=>?_⟩
   ·rw[dJ,i64_in ((i:Int)+1) (by omega)]
    refine⟨⟨i+1,by omega,.inr ⟨n+1,_,by omega,?_,rfl⟩⟩,?_⟩
    ·have:rr l a (i+1)=rr l a i++[l.getD i default]:=BH (decide_eq_true h4)
     rw[this];exact hr.push _
    ·show l.length-((i:Int)+1).toNat<l.length-(i:Int).toNat
     omega
   ·rw[i64_in ((i:Int)+1) (by omega)]
    refine⟨⟨i+1,by omega,.inr ⟨n,f,h0,?_,rfl⟩⟩,?_⟩
    ·have:rr l a (i+1)=rr l a i:=F6 (by rw[decide_eq_false h4];exact Bool.false_ne_true)
     rw[this];exact hr
    ·show l.length-((i:Int)+1).toNat<l.length-(i:Int).toNat
     omega
   ·obtain rfl:i=l.length:=by omega
    exact bd.row (.own (p:=false) (by rfl) fun j hj=>g8 (hr.cl j hj)) (h2 n f h0 hr)
theorem cL:∀ {f:FuncId} {vs:List V} {σ:St} {k:ah},cz f vs σ k→ag Tryz.prog f vs k σ:=fun h=>aH Wv Kg h
end
end Go.Proofs.YtbajncpfmemdgaaGreatDoor
end
