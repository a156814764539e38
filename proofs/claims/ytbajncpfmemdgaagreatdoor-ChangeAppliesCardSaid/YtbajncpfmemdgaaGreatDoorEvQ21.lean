/- Proved: parts of the way: BEq18, BEq19, BD1. -/
import Derived.Test.YtbajncpfmemdgaaGreatDoorEvQ20
set_option linter.unusedVariables false
set_option linter.unusedSimpArgs false
section
namespace Go.Proofs.YtbajncpfmemdgaaGreatDoor
open Go Go.Ev
def dV (t:ae):Prop:=∀c∈t.f2,zl c.f3
def fx (c:an):Prop:=zl c.f8.f3∧dV c.f9
def az (t:ae) (s:List UInt8):Int:=bT s (fun i=>(t.f2.getD i default).f0) t.f2.length
def bh {α:Type} (p:Nat→Bool) (q:Nat→α):Nat→List α
 | 0=>[]
 | n+1=>if p n=true then bh p q n++[q n] else bh p q n
def gP (l:List (List UInt8)) (s:List UInt8):Int:=bT s (fun i=>l.getD i default) l.length
noncomputable def kN (t:ae) (c:ak):Int:=
 if bJ c≠0 then bJ c else if 0≤az t c.f0 then 12 else if 8≤t.f2.length then 2 else if c.f2=false∧c.f3.f0=0 then 11 else 0
def AZ (t:ae) (c:ak):ae:=⟨t.f0,t.f1,t.f2++[c]⟩
def LN (t:ae) (s:List UInt8):Int:=if az t s<t.f1 then 10 else 0
def wK (t:ae) (s:List UInt8):ae:=⟨t.f0,t.f1,bh (fun i=>decide ((i:Int)≠az t s)) (fun i=>t.f2.getD i default) t.f2.length⟩
def oW (t:ae) (s:List UInt8):ak:=t.f2.getD (az t s).toNat default
def qV (t:ae) (s:List UInt8) (d:Int):Int:=if az t s<t.f1 then 10 else if iY (oW t s).f1 d=true then 0 else 5
noncomputable def A0 (x:ak) (d:Int):ak:=⟨x.f0,d,x.f2,jV x.f3 d⟩
noncomputable def vB (t:ae) (s:List UInt8) (d:Int):ae:=⟨t.f0,t.f1,t.f2.set (az t s).toNat (A0 (oW t s) d)⟩
noncomputable def ki (t:ae) (c:an):Int:=
 if aF c.f3≠0 then aF c.f3 else if aF c.f4≠0 then aF c.f4 else if c.f3=c.f4 then 12
 else dy (fun i=>if az t (c.f7.getD i default)<t.f1∨gP c.f7 (c.f7.getD i default)≠i then 10 else 0) c.f7.length
def named (t:ae) (c:an) (i:Nat):Bool:=decide (0≤gP c.f7 (t.f2.getD i default).f0)
def hZ (t:ae) (c:an) (b:Bool) (i:Nat):Bool:=decide ((i:Int)<t.f1)||(named t c i==b)
def vC (t:ae) (c:an):List ae:=
 [⟨c.f3,t.f1,bh (hZ t c true) (fun i=>t.f2.getD i default) t.f2.length⟩,⟨c.f4,t.f1,bh (hZ t c false) (fun i=>t.f2.getD i default) t.f2.length⟩]
noncomputable def lB (t u:ae) (c:an):Int:=
 if c.f1=c.f2 then 12 else if aF c.f3≠0 then aF c.f3 else @ite _ (t.f1≠u.f1∨t.f2≠u.f2) (Classical.propDecidable _) 11 0
def E8 (t:ae) (c:an):ae:=⟨c.f3,t.f1,t.f2⟩
def aN (c:an):List (List UInt8):=if c.f0=6 then [c.f1,c.f2] else if 2≤c.f0∧c.f0≤5 then [c.f1] else []
noncomputable def kE (c:an) (t u:ae):Int:=
 if c.f0=1 then bK c.f9 else if c.f0=2 then kN t c.f8 else if c.f0=3 then LN t c.f5 else if c.f0=4 then qV t c.f5 c.f6 else if c.f0=5 then ki t c else lB t u c
noncomputable def kT (c:an) (t:ae):List ae:=
 if c.f0=1 then [c.f9] else if c.f0=2 then [AZ t c.f8] else if c.f0=3 then [wK t c.f5] else if c.f0=4 then [vB t c.f5 c.f6] else if c.f0=5 then vC t c else [E8 t c]
noncomputable def aA (l:List ae) (s:List UInt8):ae:=l.getD (aM l s).toNat default
noncomputable def fc (l:List ae) (ss:List (List UInt8)):Int:=dy (fun i=>if aM l (ss.getD i default)<0 then 9 else 0) ss.length
noncomputable def TR (l:List ae) (ss:List (List UInt8)) (out:List ae):Int:=dy (fun i=>if 0≤aM l (out.getD i default).f0∧gP ss (out.getD i default).f0<0 then 12 else 0) out.length
noncomputable def cK (l:List ae) (c:an):Int:=
 if cn l≠0 then cn l else if c.f0<1∨6<c.f0 then 1 else if fc l (aN c)≠0 then fc l (aN c)
 else if kE c (aA l c.f1) (aA l c.f2)≠0 then kE c (aA l c.f1) (aA l c.f2) else TR l (aN c) (kT c (aA l c.f1))
noncomputable def ck (l:List ae) (c:an):List ae:=if cK l c=0 then kT c (aA l c.f1) else []
def bp (n:Nat) (f:Nat→V) (l:List ak):Prop:=n=l.length∧∀i,i<n→f i=ak.enc (l.getD i default)
noncomputable def TS (l:List Int):Int:=dy (fun i=>l.getD i default) l.length
def aR:List ak→List V
 | []=>[]
 | x::r=>x.cells++aR r
def dN:ak:=⟨[],0,false,⟨0,0,0,[]⟩⟩
noncomputable def vD (t:ae) (c:ak):ae:=if kN t c=0 then AZ t c else t
noncomputable def vE (t:ae) (s:List UInt8) (d:Int):ae:=if qV t s d=0 then vB t s d else t
noncomputable def E9 (t:ae) (c:an):List ae:=if ki t c=0 then vC t c else []
noncomputable def Fa (t u:ae) (c:an):List ae:=if lB t u c=0 then [E8 t c] else []
def A1:Nat→List Nat:=(fun i=>match i with | 0=>[0,1,7,8] | _=>[])
theorem ag7 [Env] (A:Nat→List SV→Prop) (Q:V→Prop) (n:Nat) (h:Nat→List UInt8) (s:List UInt8):WE Tryz.prog 122 Tryz.f122 E6 0 A1 A (fun v _=>Q v) [V.arr n (fun i=>V.str (h i)) 1 false false,.str s] Go.Ev.start=
  (A 0 [.val (V.arr n (fun i=>V.str (h i)) 1 false false),.val (.str s),.val (.int .i64 (((n:Nat):Int))),.val (.int .i64 (0:Int))]):=by kernel_rfl
theorem ag8 [Env] (A:Nat→List SV→Prop) (Q:V→Prop) (n:Nat) (h:Nat→List UInt8) (s:List UInt8) (m i:Int):WL Tryz.prog 122 Tryz.f122 E6 0 A1 A (fun v _=>Q v) 0 [.val (V.arr n (fun i=>V.str (h i)) 1 false false),.val (.str s),.val (.int .i64 m),.val (.int .i64 i)]=
  (((.i64:IntKind)=.i64∧aa (decide (i<m)) (((0≤i∧i<((n:Nat):Int))∧aa (decide (s=(h i.toNat))) (Q (.int .i64 i)) (A 0 [.val (V.arr n (fun i=>V.str (h i)) 1 false false),.val (.str s),.val (.int .i64 m),.val (.int .i64 (IntKind.i64.wrap (i+(1:Int))))]))) (Q (.int .i64 (-1:Int))))):=by kernel_rfl
def QY [Env] (vs:List V) (σ:St) (k:ai):Prop:=
 match vs with
 | [.arr n f 1 false false,.str s]=>∃q:Nat→List UInt8,f=(fun i=>V.str (q i))∧n≤1000000∧k (.int .i64 (bT s q n)) σ
 | _=>False
def LO [Env]:=kS 122 QY E6
def Om:Nat→List Nat:=(fun _=>[])
theorem e73 [Env] (A:Nat→List SV→Prop) (Q:V→Prop) (n:Nat) (h:Nat→List UInt8) (s:List UInt8):WE Tryz.prog 73 Tryz.f73 LO 0 Om A (fun v _=>Q v) [V.arr n (fun i=>V.str (h i)) 1 false false,.str s] Go.Ev.start=
  ((∃Y7:Nat→List UInt8,(fun i=>V.str (h i))=(fun i=>V.str (Y7 i))∧n≤1000000∧((.i64:IntKind)=.i64∧aa (decide ((bT s Y7 n)≥(0:Int))) (Q (.bool true)) (Q (.bool false))))):=by kernel_rfl
def Y8 [Env] (vs:List V) (σ:St) (k:ai):Prop:=
 match vs with
 | [.arr n f 1 false false,.str s]=>∃q:Nat→List UInt8,f=(fun i=>V.str (q i))∧n≤1000000∧k (.bool (decide (0≤bT s q n))) σ
 | _=>False
def LP [Env]:=kS 73 Y8 LO
def Jm:Nat→List Nat:=(fun _=>[])
theorem ag9 [Env] (A:Nat→List SV→Prop) (Q:V→Prop) (n:Nat) (h:Nat→List UInt8) (s:List UInt8):WE Tryz.prog 250 Tryz.f250 LP 0 Jm A (fun v _=>Q v) [V.arr n (fun i=>V.str (h i)) 1 false false,.str s] Go.Ev.start=
  ((∃Y9:Nat→List UInt8,(fun i=>V.str (h i))=(fun i=>V.str (Y9 i))∧n≤1000000∧Q (.int .i64 (bT s Y9 n)))):=by kernel_rfl
def QZ [Env] (vs:List V) (σ:St) (k:ai):Prop:=
 match vs with
 | [.arr n f 1 false false,.str s]=>∃q:Nat→List UInt8,f=(fun i=>V.str (q i))∧n≤1000000∧k (.int .i64 (bT s q n)) σ
 | _=>False
def LQ [Env]:=kS 250 QZ LP
def Jn:Nat→List Nat:=(fun _=>[])
theorem aha [Env] (A:Nat→List SV→Prop) (Q:V→Prop) (t:ae) (s:List UInt8):WE Tryz.prog 226 Tryz.f226 LQ 0 Jn A (fun v _=>Q v) [ae.enc t,.str s] Go.Ev.start=
  ((∃Za:Nat→ak,(fun i=>ak.enc (t.f2.getD i default))=(fun i=>ak.enc (Za i))∧t.f2.length≤1000∧(∃Zb:Nat→List UInt8,(fun i=>V.str ((fun i=>(Za i).f0) i))=(fun i=>V.str (Zb i))∧t.f2.length≤1000000∧Q (.int .i64 (bT s Zb t.f2.length))))):=by kernel_rfl
def Zc [Env] (vs:List V) (σ:St) (k:ai):Prop:=
 ∃(t:ae) (s:List UInt8),vs=[ae.enc t,.str s]∧t.f2.length≤1000∧k (.int .i64 (az t s)) σ
def LR [Env]:=kS 226 Zc LQ
def Jo:Nat→List Nat:=(fun _=>[])
theorem ahb [Env] (A:Nat→List SV→Prop) (Q:V→Prop) (t:ae) (s:List UInt8):WE Tryz.prog 127 Tryz.f127 LR 0 Jo A (fun v _=>Q v) [ae.enc t,.str s] Go.Ev.start=
  ((∃Zd:Nat→ak,(fun i=>ak.enc (t.f2.getD i default))=(fun i=>ak.enc (Zd i))∧t.f2.length≤1000∧(∃q:Nat→List UInt8,(fun i=>V.str ((fun i=>(Zd i).f0) i))=(fun i=>V.str (q i))∧t.f2.length≤1000000∧Q (.int .i64 (bT s q t.f2.length))))):=by kernel_rfl
def Ze [Env] (vs:List V) (σ:St) (k:ai):Prop:=
 ∃(t:ae) (s:List UInt8),vs=[ae.enc t,.str s]∧t.f2.length≤1000∧k (.int .i64 (az t s)) σ
def Fb [Env]:=kS 127 Ze LR
def Fc:Nat→List Nat:=(fun _=>[])
theorem e74 [Env] (A:Nat→List SV→Prop) (Q:V→St→Prop) (l:List ak):WE Tryz.prog 74 Tryz.f74 Fb 0 Fc A Q [KO ak.enc 7 l] Go.Ev.start=
  (aa (decide (l.length=0)) (Q (.slice 0 0 (0) (0) true 7) ⟨(St.new Go.Ev.start 0 (.cells 0 [] (ah [] .leaf 0) true false)).heap,1⟩) (l.length*72≤1099511627776∧Q (.own 1 l.length 7) ⟨(St.new (St.new Go.Ev.start 0 (.cells 0 [] (ah [] .leaf 0) true false)) 1 (.row l.length (fun i=>ak.enc (l.getD i default)) 7 true)).heap,2⟩)):=by kernel_rfl
def W74 [Env] (vs:List V) (σ:St) (k:ai):Prop:=
 ∃l:List ak,vs=[af ak.enc 7 l]∧(0<l.length∧l.length≤1000)∧k (.own σ.next l.length 7) (σ.new σ.next (.row l.length (fun i=>ak.enc (l.getD i default)) 7 false))
def A2 [Env]:=kS 74 W74 Fb
def wL:Nat→List Nat:=(fun i=>match i with | 0=>[0,1,5,6] | _=>[])
theorem ahc [Env] (A:Nat→List SV→Prop) (Q:V→St→Prop) (l:List ak) (a:Int):WE Tryz.prog 128 Tryz.f128 A2 0 wL A Q [af ak.enc 7 l,.int .i64 a] Go.Ev.start=
  (A 0 [.val (af ak.enc 7 l),.val (.int .i64 a),.val (.aj),.val (.int .i64 (0:Int))]):=by kernel_rfl
theorem acf [Env] (A:Nat→List SV→Prop) (Q:V→St→Prop) (l:List ak) (a i:Int):WL Tryz.prog 128 Tryz.f128 A2 0 wL A Q 0 [.val (af ak.enc 7 l),.val (.int .i64 a),.val (.aj),.val (.int .i64 i)]=
  (((.i64:IntKind)=.i64∧aa (decide (i<(((l.length:Nat):Int)))) (((.i64:IntKind)=.i64∧aa (decide (i≠a)) (((0≤i∧i<((l.length:Nat):Int))∧(((1:Nat)=1∧(1:Nat)=1∧1*7=1*7)∧A 0 [.val (af ak.enc 7 l),.val (.int .i64 a),.row 1 (fun _=>.agg (ak.cells (l.getD i.toNat default))) 7,.val (.int .i64 (IntKind.i64.wrap (i+(1:Int))))]))) (A 0 [.val (af ak.enc 7 l),.val (.int .i64 a),.val (.aj),.val (.int .i64 (IntKind.i64.wrap (i+(1:Int))))]))) (Q (.aj) ⟨Go.Ev.start.heap,0⟩))):=by kernel_rfl
theorem acg [Env] (A:Nat→List SV→Prop) (Q:V→St→Prop) (l:List ak) (a i:Int) (m:Nat) (f:Nat→V):WL Tryz.prog 128 Tryz.f128 A2 0 wL A Q 0 [.val (af ak.enc 7 l),.val (.int .i64 a),.row m f 7,.val (.int .i64 i)]=
  (((.i64:IntKind)=.i64∧aa (decide (i<(((l.length:Nat):Int)))) (((.i64:IntKind)=.i64∧aa (decide (i≠a)) (((0≤i∧i<((l.length:Nat):Int))∧((m=m∧(m+1)*72≤1099511627776)∧(((m+1)=(m+1)∧7=7)∧A 0 [.val (af ak.enc 7 l),.val (.int .i64 a),.row (m+1) (cw m f (fun _=>.agg (ak.cells (l.getD i.toNat default)))) 7,.val (.int .i64 (IntKind.i64.wrap (i+(1:Int))))])))) (((m=m∧7=7)∧A 0 [.val (af ak.enc 7 l),.val (.int .i64 a),.row m f 7,.val (.int .i64 (IntKind.i64.wrap (i+(1:Int))))])))) (Q (.own 0 m 7) ⟨(St.new Go.Ev.start 0 (.row m f 7 false)).heap,1⟩))):=by kernel_rfl
def Zf [Env] (vs:List V) (σ:St) (k:ai):Prop:=
 ∃(l:List ak) (a:Int),vs=[af ak.enc 7 l,.int .i64 a]∧l.length≤1000∧((bh (fun i=>decide ((i:Int)≠a)) (fun i=>l.getD i default) l.length=[]→k .aj σ)∧∀n f,0<n→bp n f (bh (fun i=>decide ((i:Int)≠a)) (fun i=>l.getD i default) l.length)→k (.own σ.next n 7) (σ.new σ.next (.row n f 7 false)))
def cm [Env]:=kS 128 Zf A2
theorem Q0 [Env] (A:Nat→List SV→Prop) (Q:V→St→Prop) (x0 x1:ak):WE Tryz.prog 307 Tryz.f307 cm 0 (fun _=>[]) A Q [.slice 0 0 2 2 false 7,.int .i64 1,.int .i64 2] (aU (.cells 14 [] (ah (aR [x0,x1]) .leaf 0) false false))=
  (((.i64:IntKind)=.i64∧Q (.slice 0 0 (1) (2) false 7) ⟨(aU (.cells 14 [] (ah (aR [x0,dN]) .leaf 0) false false)).heap,9⟩)):=by kernel_rfl
theorem Q1 [Env] (A:Nat→List SV→Prop) (Q:V→St→Prop) (x0 x1 x2:ak):WE Tryz.prog 307 Tryz.f307 cm 0 (fun _=>[]) A Q [.slice 0 0 3 3 false 7,.int .i64 1,.int .i64 2] (aU (.cells 21 [] (ah (aR [x0,x1,x2]) .leaf 0) false false))=
  (((.i64:IntKind)=.i64∧Q (.slice 0 0 (2) (3) false 7) ⟨(aU (.cells 21 [] (ah (aR [x0,x2,dN]) .leaf 0) false false)).heap,9⟩)):=by kernel_rfl
theorem Q2 [Env] (A:Nat→List SV→Prop) (Q:V→St→Prop) (x0 x1 x2:ak):WE Tryz.prog 307 Tryz.f307 cm 0 (fun _=>[]) A Q [.slice 0 0 3 3 false 7,.int .i64 2,.int .i64 3] (aU (.cells 21 [] (ah (aR [x0,x1,x2]) .leaf 0) false false))=
  (((.i64:IntKind)=.i64∧Q (.slice 0 0 (2) (3) false 7) ⟨(aU (.cells 21 [] (ah (aR [x0,x1,dN]) .leaf 0) false false)).heap,9⟩)):=by kernel_rfl
theorem Q3 [Env] (A:Nat→List SV→Prop) (Q:V→St→Prop) (x0 x1 x2 x3:ak):WE Tryz.prog 307 Tryz.f307 cm 0 (fun _=>[]) A Q [.slice 0 0 4 4 false 7,.int .i64 1,.int .i64 2] (aU (.cells 28 [] (ah (aR [x0,x1,x2,x3]) .leaf 0) false false))=
  (((.i64:IntKind)=.i64∧Q (.slice 0 0 (3) (4) false 7) ⟨(aU (.cells 28 [] (ah (aR [x0,x2,x3,dN]) .leaf 0) false false)).heap,9⟩)):=by kernel_rfl
theorem Q4 [Env] (A:Nat→List SV→Prop) (Q:V→St→Prop) (x0 x1 x2 x3:ak):WE Tryz.prog 307 Tryz.f307 cm 0 (fun _=>[]) A Q [.slice 0 0 4 4 false 7,.int .i64 2,.int .i64 3] (aU (.cells 28 [] (ah (aR [x0,x1,x2,x3]) .leaf 0) false false))=
  (((.i64:IntKind)=.i64∧Q (.slice 0 0 (3) (4) false 7) ⟨(aU (.cells 28 [] (ah (aR [x0,x1,x3,dN]) .leaf 0) false false)).heap,9⟩)):=by kernel_rfl
theorem Q5 [Env] (A:Nat→List SV→Prop) (Q:V→St→Prop) (x0 x1 x2 x3:ak):WE Tryz.prog 307 Tryz.f307 cm 0 (fun _=>[]) A Q [.slice 0 0 4 4 false 7,.int .i64 3,.int .i64 4] (aU (.cells 28 [] (ah (aR [x0,x1,x2,x3]) .leaf 0) false false))=
  (((.i64:IntKind)=.i64∧Q (.slice 0 0 (3) (4) false 7) ⟨(aU (.cells 28 [] (ah (aR [x0,x1,x2,dN]) .leaf 0) false false)).heap,9⟩)):=by kernel_rfl
theorem Q6 [Env] (A:Nat→List SV→Prop) (Q:V→St→Prop) (x0 x1 x2 x3 x4:ak):WE Tryz.prog 307 Tryz.f307 cm 0 (fun _=>[]) A Q [.slice 0 0 5 5 false 7,.int .i64 1,.int .i64 2] (aU (.cells 35 [] (ah (aR [x0,x1,x2,x3,x4]) .leaf 0) false false))=
  (((.i64:IntKind)=.i64∧Q (.slice 0 0 (4) (5) false 7) ⟨(aU (.cells 35 [] (ah (aR [x0,x2,x3,x4,dN]) .leaf 0) false false)).heap,9⟩)):=by kernel_rfl
theorem Q7 [Env] (A:Nat→List SV→Prop) (Q:V→St→Prop) (x0 x1 x2 x3 x4:ak):WE Tryz.prog 307 Tryz.f307 cm 0 (fun _=>[]) A Q [.slice 0 0 5 5 false 7,.int .i64 2,.int .i64 3] (aU (.cells 35 [] (ah (aR [x0,x1,x2,x3,x4]) .leaf 0) false false))=
  (((.i64:IntKind)=.i64∧Q (.slice 0 0 (4) (5) false 7) ⟨(aU (.cells 35 [] (ah (aR [x0,x1,x3,x4,dN]) .leaf 0) false false)).heap,9⟩)):=by kernel_rfl
theorem Q8 [Env] (A:Nat→List SV→Prop) (Q:V→St→Prop) (x0 x1 x2 x3 x4:ak):WE Tryz.prog 307 Tryz.f307 cm 0 (fun _=>[]) A Q [.slice 0 0 5 5 false 7,.int .i64 3,.int .i64 4] (aU (.cells 35 [] (ah (aR [x0,x1,x2,x3,x4]) .leaf 0) false false))=
  (((.i64:IntKind)=.i64∧Q (.slice 0 0 (4) (5) false 7) ⟨(aU (.cells 35 [] (ah (aR [x0,x1,x2,x4,dN]) .leaf 0) false false)).heap,9⟩)):=by kernel_rfl
theorem Q9 [Env] (A:Nat→List SV→Prop) (Q:V→St→Prop) (x0 x1 x2 x3 x4:ak):WE Tryz.prog 307 Tryz.f307 cm 0 (fun _=>[]) A Q [.slice 0 0 5 5 false 7,.int .i64 4,.int .i64 5] (aU (.cells 35 [] (ah (aR [x0,x1,x2,x3,x4]) .leaf 0) false false))=
  (((.i64:IntKind)=.i64∧Q (.slice 0 0 (4) (5) false 7) ⟨(aU (.cells 35 [] (ah (aR [x0,x1,x2,x3,dN]) .leaf 0) false false)).heap,9⟩)):=by kernel_rfl
theorem Ra [Env] (A:Nat→List SV→Prop) (Q:V→St→Prop) (x0 x1 x2 x3 x4 x5:ak):WE Tryz.prog 307 Tryz.f307 cm 0 (fun _=>[]) A Q [.slice 0 0 6 6 false 7,.int .i64 1,.int .i64 2] (aU (.cells 42 [] (ah (aR [x0,x1,x2,x3,x4,x5]) .leaf 0) false false))=
  (((.i64:IntKind)=.i64∧Q (.slice 0 0 (5) (6) false 7) ⟨(aU (.cells 42 [] (ah (aR [x0,x2,x3,x4,x5,dN]) .leaf 0) false false)).heap,9⟩)):=by kernel_rfl
theorem Rb [Env] (A:Nat→List SV→Prop) (Q:V→St→Prop) (x0 x1 x2 x3 x4 x5:ak):WE Tryz.prog 307 Tryz.f307 cm 0 (fun _=>[]) A Q [.slice 0 0 6 6 false 7,.int .i64 2,.int .i64 3] (aU (.cells 42 [] (ah (aR [x0,x1,x2,x3,x4,x5]) .leaf 0) false false))=
  (((.i64:IntKind)=.i64∧Q (.slice 0 0 (5) (6) false 7) ⟨(aU (.cells 42 [] (ah (aR [x0,x1,x3,x4,x5,dN]) .leaf 0) false false)).heap,9⟩)):=by kernel_rfl
theorem Rc [Env] (A:Nat→List SV→Prop) (Q:V→St→Prop) (x0 x1 x2 x3 x4 x5:ak):WE Tryz.prog 307 Tryz.f307 cm 0 (fun _=>[]) A Q [.slice 0 0 6 6 false 7,.int .i64 3,.int .i64 4] (aU (.cells 42 [] (ah (aR [x0,x1,x2,x3,x4,x5]) .leaf 0) false false))=
  (((.i64:IntKind)=.i64∧Q (.slice 0 0 (5) (6) false 7) ⟨(aU (.cells 42 [] (ah (aR [x0,x1,x2,x4,x5,dN]) .leaf 0) false false)).heap,9⟩)):=by kernel_rfl
theorem Re [Env] (A:Nat→List SV→Prop) (Q:V→St→Prop) (x0 x1 x2 x3 x4 x5:ak):WE Tryz.prog 307 Tryz.f307 cm 0 (fun _=>[]) A Q [.slice 0 0 6 6 false 7,.int .i64 4,.int .i64 5] (aU (.cells 42 [] (ah (aR [x0,x1,x2,x3,x4,x5]) .leaf 0) false false))=
  (((.i64:IntKind)=.i64∧Q (.slice 0 0 (5) (6) false 7) ⟨(aU (.cells 42 [] (ah (aR [x0,x1,x2,x3,x5,dN]) .leaf 0) false false)).heap,9⟩)):=by kernel_rfl
theorem Rf [Env] (A:Nat→List SV→Prop) (Q:V→St→Prop) (x0 x1 x2 x3 x4 x5:ak):WE Tryz.prog 307 Tryz.f307 cm 0 (fun _=>[]) A Q [.slice 0 0 6 6 false 7,.int .i64 5,.int .i64 6] (aU (.cells 42 [] (ah (aR [x0,x1,x2,x3,x4,x5]) .leaf 0) false false))=
  (((.i64:IntKind)=.i64∧Q (.slice 0 0 (5) (6) false 7) ⟨(aU (.cells 42 [] (ah (aR [x0,x1,x2,x3,x4,dN]) .leaf 0) false false)).heap,9⟩)):=by kernel_rfl
theorem Rh [Env] (A:Nat→List SV→Prop) (Q:V→St→Prop) (x0 x1 x2 x3 x4 x5 x6:ak):WE Tryz.prog 307 Tryz.f307 cm 0 (fun _=>[]) A Q [.slice 0 0 7 7 false 7,.int .i64 1,.int .i64 2] (aU (.cells 49 [] (ah (aR [x0,x1,x2,x3,x4,x5,x6]) .leaf 0) false false))=
  (((.i64:IntKind)=.i64∧Q (.slice 0 0 (6) (7) false 7) ⟨(aU (.cells 49 [] (ah (aR [x0,x2,x3,x4,x5,x6,dN]) .leaf 0) false false)).heap,9⟩)):=by kernel_rfl
theorem Ri [Env] (A:Nat→List SV→Prop) (Q:V→St→Prop) (x0 x1 x2 x3 x4 x5 x6:ak):WE Tryz.prog 307 Tryz.f307 cm 0 (fun _=>[]) A Q [.slice 0 0 7 7 false 7,.int .i64 2,.int .i64 3] (aU (.cells 49 [] (ah (aR [x0,x1,x2,x3,x4,x5,x6]) .leaf 0) false false))=
  (((.i64:IntKind)=.i64∧Q (.slice 0 0 (6) (7) false 7) ⟨(aU (.cells 49 [] (ah (aR [x0,x1,x3,x4,x5,x6,dN]) .leaf 0) false false)).heap,9⟩)):=by kernel_rfl
theorem Rj [Env] (A:Nat→List SV→Prop) (Q:V→St→Prop) (x0 x1 x2 x3 x4 x5 x6:ak):WE Tryz.prog 307 Tryz.f307 cm 0 (fun _=>[]) A Q [.slice 0 0 7 7 false 7,.int .i64 3,.int .i64 4] (aU (.cells 49 [] (ah (aR [x0,x1,x2,x3,x4,x5,x6]) .leaf 0) false false))=
  (((.i64:IntKind)=.i64∧Q (.slice 0 0 (6) (7) false 7) ⟨(aU (.cells 49 [] (ah (aR [x0,x1,x2,x4,x5,x6,dN]) .leaf 0) false false)).heap,9⟩)):=by kernel_rfl
theorem Rk [Env] (A:Nat→List SV→Prop) (Q:V→St→Prop) (x0 x1 x2 x3 x4 x5 x6:ak):WE Tryz.prog 307 Tryz.f307 cm 0 (fun _=>[]) A Q [.slice 0 0 7 7 false 7,.int .i64 4,.int .i64 5] (aU (.cells 49 [] (ah (aR [x0,x1,x2,x3,x4,x5,x6]) .leaf 0) false false))=
  (((.i64:IntKind)=.i64∧Q (.slice 0 0 (6) (7) false 7) ⟨(aU (.cells 49 [] (ah (aR [x0,x1,x2,x3,x5,x6,dN]) .leaf 0) false false)).heap,9⟩)):=by kernel_rfl
theorem Rl [Env] (A:Nat→List SV→Prop) (Q:V→St→Prop) (x0 x1 x2 x3 x4 x5 x6:ak):WE Tryz.prog 307 Tryz.f307 cm 0 (fun _=>[]) A Q [.slice 0 0 7 7 false 7,.int .i64 5,.int .i64 6] (aU (.cells 49 [] (ah (aR [x0,x1,x2,x3,x4,x5,x6]) .leaf 0) false false))=
  (((.i64:IntKind)=.i64∧Q (.slice 0 0 (6) (7) false 7) ⟨(aU (.cells 49 [] (ah (aR [x0,x1,x2,x3,x4,x6,dN]) .leaf 0) false false)).heap,9⟩)):=by kernel_rfl
theorem Rm [Env] (A:Nat→List SV→Prop) (Q:V→St→Prop) (x0 x1 x2 x3 x4 x5 x6:ak):WE Tryz.prog 307 Tryz.f307 cm 0 (fun _=>[]) A Q [.slice 0 0 7 7 false 7,.int .i64 6,.int .i64 7] (aU (.cells 49 [] (ah (aR [x0,x1,x2,x3,x4,x5,x6]) .leaf 0) false false))=
  (((.i64:IntKind)=.i64∧Q (.slice 0 0 (6) (7) false 7) ⟨(aU (.cells 49 [] (ah (aR [x0,x1,x2,x3,x4,x5,dN]) .leaf 0) false false)).heap,9⟩)):=by kernel_rfl
theorem Ro [Env] (A:Nat→List SV→Prop) (Q:V→St→Prop) (x0 x1 x2 x3 x4 x5 x6 x7:ak):WE Tryz.prog 307 Tryz.f307 cm 0 (fun _=>[]) A Q [.slice 0 0 8 8 false 7,.int .i64 1,.int .i64 2] (aU (.cells 56 [] (ah (aR [x0,x1,x2,x3,x4,x5,x6,x7]) .leaf 0) false false))=
  (((.i64:IntKind)=.i64∧Q (.slice 0 0 (7) (8) false 7) ⟨(aU (.cells 56 [] (ah (aR [x0,x2,x3,x4,x5,x6,x7,dN]) .leaf 0) false false)).heap,9⟩)):=by kernel_rfl
theorem Rp [Env] (A:Nat→List SV→Prop) (Q:V→St→Prop) (x0 x1 x2 x3 x4 x5 x6 x7:ak):WE Tryz.prog 307 Tryz.f307 cm 0 (fun _=>[]) A Q [.slice 0 0 8 8 false 7,.int .i64 2,.int .i64 3] (aU (.cells 56 [] (ah (aR [x0,x1,x2,x3,x4,x5,x6,x7]) .leaf 0) false false))=
  (((.i64:IntKind)=.i64∧Q (.slice 0 0 (7) (8) false 7) ⟨(aU (.cells 56 [] (ah (aR [x0,x1,x3,x4,x5,x6,x7,dN]) .leaf 0) false false)).heap,9⟩)):=by kernel_rfl
theorem Rq [Env] (A:Nat→List SV→Prop) (Q:V→St→Prop) (x0 x1 x2 x3 x4 x5 x6 x7:ak):WE Tryz.prog 307 Tryz.f307 cm 0 (fun _=>[]) A Q [.slice 0 0 8 8 false 7,.int .i64 3,.int .i64 4] (aU (.cells 56 [] (ah (aR [x0,x1,x2,x3,x4,x5,x6,x7]) .leaf 0) false false))=
  (((.i64:IntKind)=.i64∧Q (.slice 0 0 (7) (8) false 7) ⟨(aU (.cells 56 [] (ah (aR [x0,x1,x2,x4,x5,x6,x7,dN]) .leaf 0) false false)).heap,9⟩)):=by kernel_rfl
theorem Rr [Env] (A:Nat→List SV→Prop) (Q:V→St→Prop) (x0 x1 x2 x3 x4 x5 x6 x7:ak):WE Tryz.prog 307 Tryz.f307 cm 0 (fun _=>[]) A Q [.slice 0 0 8 8 false 7,.int .i64 4,.int .i64 5] (aU (.cells 56 [] (ah (aR [x0,x1,x2,x3,x4,x5,x6,x7]) .leaf 0) false false))=
  (((.i64:IntKind)=.i64∧Q (.slice 0 0 (7) (8) false 7) ⟨(aU (.cells 56 [] (ah (aR [x0,x1,x2,x3,x5,x6,x7,dN]) .leaf 0) false false)).heap,9⟩)):=by kernel_rfl
theorem Rs [Env] (A:Nat→List SV→Prop) (Q:V→St→Prop) (x0 x1 x2 x3 x4 x5 x6 x7:ak):WE Tryz.prog 307 Tryz.f307 cm 0 (fun _=>[]) A Q [.slice 0 0 8 8 false 7,.int .i64 5,.int .i64 6] (aU (.cells 56 [] (ah (aR [x0,x1,x2,x3,x4,x5,x6,x7]) .leaf 0) false false))=
  (((.i64:IntKind)=.i64∧Q (.slice 0 0 (7) (8) false 7) ⟨(aU (.cells 56 [] (ah (aR [x0,x1,x2,x3,x4,x6,x7,dN]) .leaf 0) false false)).heap,9⟩)):=by kernel_rfl
theorem Rt [Env] (A:Nat→List SV→Prop) (Q:V→St→Prop) (x0 x1 x2 x3 x4 x5 x6 x7:ak):WE Tryz.prog 307 Tryz.f307 cm 0 (fun _=>[]) A Q [.slice 0 0 8 8 false 7,.int .i64 6,.int .i64 7] (aU (.cells 56 [] (ah (aR [x0,x1,x2,x3,x4,x5,x6,x7]) .leaf 0) false false))=
  (((.i64:IntKind)=.i64∧Q (.slice 0 0 (7) (8) false 7) ⟨(aU (.cells 56 [] (ah (aR [x0,x1,x2,x3,x4,x5,x7,dN]) .leaf 0) false false)).heap,9⟩)):=by kernel_rfl
theorem Ru [Env] (A:Nat→List SV→Prop) (Q:V→St→Prop) (x0 x1 x2 x3 x4 x5 x6 x7:ak):WE Tryz.prog 307 Tryz.f307 cm 0 (fun _=>[]) A Q [.slice 0 0 8 8 false 7,.int .i64 7,.int .i64 8] (aU (.cells 56 [] (ah (aR [x0,x1,x2,x3,x4,x5,x6,x7]) .leaf 0) false false))=
  (((.i64:IntKind)=.i64∧Q (.slice 0 0 (7) (8) false 7) ⟨(aU (.cells 56 [] (ah (aR [x0,x1,x2,x3,x4,x5,x6,dN]) .leaf 0) false false)).heap,9⟩)):=by kernel_rfl
def Rv [Env] (vs:List V) (σ:St) (k:ai):Prop:=
 match vs with
 | [.own b n 7,.int .i64 x,.int .i64 y]=>∃(l:List ak) (i:Nat),(n=l.length∧x=i∧y=(i:Int)+1)∧σ.heap.get b=some (.row l.length (fun j=>ak.enc (l.getD j default)) 7 false)∧(0<i∧i<l.length∧l.length≤8)∧∀m f,bp m f (bh (fun j=>decide (j≠i)) (fun j=>l.getD j default) l.length)→k (.own σ.next m 7) ((σ.kill b).new σ.next (.row m f 7 false))
 | _=>False
def LS [Env]:=kS 307 Rv cm
end Go.Proofs.YtbajncpfmemdgaaGreatDoor
end
section
namespace Go.Proofs.YtbajncpfmemdgaaGreatDoor
open Go Go.Ev
def Jp:Nat→List Nat:=(fun _=>[])
theorem ahd [Env] (A:Nat→List SV→Prop) (Q:V→Prop) (e:ak):WE Tryz.prog 304 Tryz.f304 LS 0 Jp A (fun v _=>Q v) [ak.enc e] Go.Ev.start=
  ((∃Fe:ak,[.agg (ak.cells e)]=[ak.enc Fe]∧mv Fe∧(bJ Fe=0→Q (.int .i64 (0:Int)))∧(bJ Fe≠0→Q (.int .i64 (bJ Fe))))):=by kernel_rfl
def Zg [Env] (vs:List V) (σ:St) (k:ai):Prop:=
 ∃e:ak,vs=[ak.enc e]∧mv e∧k (.int .i64 (bJ e)) σ
def Ff [Env]:=kS 304 Zg LS
def A3:Nat→List Nat:=(fun i=>match i with | 0=>[3,6,7,8] | _=>[])
theorem ahe [Env] (A:Nat→List SV→Prop) (Q:V→Prop) (l:List Int):WE Tryz.prog 312 Tryz.f312 Ff 0 A3 A (fun v _=>Q v) [af (V.int .i64) 1 l] Go.Ev.start=
  (A 0 [.val (.int .i64 (0:Int)),.val (af (V.int .i64) 1 l),.val (.int .i64 (((l.length:Nat):Int))),.val (.int .i64 (0:Int))]):=by kernel_rfl
theorem ahf [Env] (A:Nat→List SV→Prop) (Q:V→Prop) (l:List Int) (m i:Int):WL Tryz.prog 312 Tryz.f312 Ff 0 A3 A (fun v _=>Q v) 0 [.val (.int .i64 (0:Int)),.val (af (V.int .i64) 1 l),.val (.int .i64 m),.val (.int .i64 i)]=
  (((.i64:IntKind)=.i64∧aa (decide (i<m)) (((0≤i∧i<((l.length:Nat):Int))∧((.i64:IntKind)=.i64∧aa (decide (((l.getD i.toNat default))≠(0:Int))) (Q (.int .i64 ((l.getD i.toNat default)))) (A 0 [.val (.int .i64 (0:Int)),.val (af (V.int .i64) 1 l),.val (.int .i64 m),.val (.int .i64 (IntKind.i64.wrap (i+(1:Int))))])))) (Q (.int .i64 (0:Int))))):=by kernel_rfl
def Zh [Env] (vs:List V) (σ:St) (k:ai):Prop:=
 ∃l:List Int,bA σ vs [af (V.int .i64) 1 l]∧l.length≤1000∧k (.int .i64 (TS l)) σ
def Fg [Env]:=kS 312 Zh Ff
def A4:Nat→List Nat:=(fun i=>match i with | 0=>[0,1,12,13] | _=>[])
theorem ahg [Env] (A:Nat→List SV→Prop) (Q:V→Prop) (l m:List ak):WE Tryz.prog 154 Tryz.f154 Fg 0 A4 A (fun v _=>Q v) [af ak.enc 7 l,af ak.enc 7 m] Go.Ev.start=
  (((.i64:IntKind)=.i64∧aa (decide ((((l.length:Nat):Int))≠(((m.length:Nat):Int)))) (Q (.bool false)) (A 0 [.val (af ak.enc 7 l),.val (af ak.enc 7 m),.val (.int .i64 (((l.length:Nat):Int))),.val (.int .i64 (0:Int))]))):=by kernel_rfl
theorem ahh [Env] (A:Nat→List SV→Prop) (Q:V→Prop) (l m:List ak) (c i:Int):WL Tryz.prog 154 Tryz.f154 Fg 0 A4 A (fun v _=>Q v) 0 [.val (af ak.enc 7 l),.val (af ak.enc 7 m),.val (.int .i64 c),.val (.int .i64 i)]=
  (((.i64:IntKind)=.i64∧aa (decide (i<c)) (((0≤i∧i<((l.length:Nat):Int))∧((0≤i∧i<((m.length:Nat):Int))∧aa (decide (((l.getD i.toNat default).f0)=((m.getD i.toNat default).f0))) (((.i64:IntKind)=.i64∧aa (decide (((l.getD i.toNat default).f1)=((m.getD i.toNat default).f1))) (aa ((l.getD i.toNat default).f2==(m.getD i.toNat default).f2) (((.i64:IntKind)=.i64∧aa (decide (((l.getD i.toNat default).f3.f0)=((m.getD i.toNat default).f3.f0))) (((.i64:IntKind)=.i64∧aa (decide (((l.getD i.toNat default).f3.f1)=((m.getD i.toNat default).f3.f1))) (((.u64:IntKind)=.u64∧aa (decide (((l.getD i.toNat default).f3.f2)=((m.getD i.toNat default).f3.f2))) (aa (decide (((l.getD i.toNat default).f3.f3)=((m.getD i.toNat default).f3.f3))) (A 0 [.val (af ak.enc 7 l),.val (af ak.enc 7 m),.val (.int .i64 c),.val (.int .i64 (IntKind.i64.wrap (i+(1:Int))))]) (Q (.bool false))) (Q (.bool false)))) (Q (.bool false)))) (Q (.bool false)))) (Q (.bool false))) (Q (.bool false)))) (Q (.bool false))))) (Q (.bool true)))):=by kernel_rfl
def Zi [Env] (vs:List V) (σ:St) (k:ai):Prop:=
 ∃x y:List ak,vs=[af ak.enc 7 x,af ak.enc 7 y]∧x.length≤1000000∧∀b:Bool,(b=true↔x=y)→k (.bool b) σ
def Fh [Env]:=kS 154 Zi Fg
def Fi:Nat→List Nat:=(fun i=>match i with | 0=>[0,1,5] | _=>[])
theorem e33 [Env] (A:Nat→List SV→Prop) (Q:V→Prop) (l m:List (List UInt8)):WE Tryz.prog 33 Tryz.f33 Fh 0 Fi A (fun v _=>Q v) [af V.str 1 l,af V.str 1 m] Go.Ev.start=
  (((.i64:IntKind)=.i64∧aa (decide ((((l.length:Nat):Int))≠(((m.length:Nat):Int)))) (Q (.bool false)) (A 0 [.val (af V.str 1 l),.val (af V.str 1 m),.val (.int .i64 (0:Int))]))):=by kernel_rfl
theorem r33 [Env] (A:Nat→List SV→Prop) (Q:V→Prop) (l m:List (List UInt8)) (i:Int):WL Tryz.prog 33 Tryz.f33 Fh 0 Fi A (fun v _=>Q v) 0 [.val (af V.str 1 l),.val (af V.str 1 m),.val (.int .i64 i)]=
  (((.i64:IntKind)=.i64∧aa (decide (i<(((l.length:Nat):Int)))) (((0≤i∧i<((l.length:Nat):Int))∧((0≤i∧i<((m.length:Nat):Int))∧aa (decide ((l.getD i.toNat default)≠(m.getD i.toNat default))) (Q (.bool false)) (A 0 [.val (af V.str 1 l),.val (af V.str 1 m),.val (.int .i64 (IntKind.i64.wrap (i+(1:Int))))])))) (Q (.bool true)))):=by kernel_rfl
def W33 [Env] (vs:List V) (σ:St) (k:ai):Prop:=
 ∃x y:List (List UInt8),vs=[af V.str 1 x,af V.str 1 y]∧x.length≤1000000∧∀b:Bool,(b=true↔x=y)→k (.bool b) σ
def LU [Env]:=kS 33 W33 Fh
def Jq:Nat→List Nat:=(fun _=>[])
theorem ahi [Env] (A:Nat→List SV→Prop) (Q:V→St→Prop) (t:ae) (e:Int):WE Tryz.prog 301 Tryz.f301 LU 0 Jq A Q [ae.enc t,.int .i64 e] Go.Ev.start=
  (((.i64:IntKind)=.i64∧aa (decide (e≠(0:Int))) (Q (.tuple [.aj,.int .i64 e]) ⟨(St.new Go.Ev.start 0 (.cells 3 [] (ah (ae.cells t) .leaf 0) true false)).heap,1⟩) (Q (.tuple [.slice 1 0 (1) (1) true 3,.int .i64 (0:Int)]) ⟨(St.new (St.new Go.Ev.start 0 (.cells 3 [] (ah (ae.cells t) .leaf 0) true false)) 1 (.cells 3 [] (ah (ae.cells t) .leaf 0) true false)).heap,2⟩))):=by kernel_rfl
def Zj [Env] (vs:List V) (σ:St) (k:ai):Prop:=
 ∃(t:ae) (e:Int),bA σ vs [ae.enc t,.int .i64 e]∧(e=0→k (.tuple [.own σ.next 1 3,.int .i64 0]) ((void σ.next).new σ.next (.row 1 (fun i=>ae.enc ([t].getD i default)) 3 false)))∧(e≠0→k (.tuple [.aj,.int .i64 e]) (void σ.next))
def LV [Env]:=kS 301 Zj LU
def Jr:Nat→List Nat:=(fun _=>[])
theorem ahj [Env] (A:Nat→List SV→Prop) (Q:V→St→Prop) (c:an):WE Tryz.prog 299 Tryz.f299 LV 0 Jr A Q [an.enc c] Go.Ev.start=
  (Q (.aj) ⟨(St.new Go.Ev.start 0 (.cells 18 [] (ah (an.cells c) .leaf 0) true false)).heap,1⟩):=by kernel_rfl
def Zk [Env] (vs:List V) (σ:St) (k:ai):Prop:=
 ∃c:an,vs=[an.enc c]∧k (af V.str 1 (([]:List (List UInt8)))) σ
def LW [Env]:=kS 299 Zk LV
def Js:Nat→List Nat:=(fun _=>[])
theorem ahk [Env] (A:Nat→List SV→Prop) (Q:V→St→Prop) (c:an):WE Tryz.prog 302 Tryz.f302 LW 0 Js A Q [an.enc c] Go.Ev.start=
  (Q (.slice 1 0 (1) (1) true 1) ⟨(St.new (St.new Go.Ev.start 0 (.cells 18 [] (ah (an.cells c) .leaf 0) true false)) 1 (.cells 1 [] (ah [.str c.f1] .leaf 0) true false)).heap,2⟩):=by kernel_rfl
def Zl [Env] (vs:List V) (σ:St) (k:ai):Prop:=
 ∃c:an,vs=[an.enc c]∧k (af V.str 1 ([c.f1])) σ
def LX [Env]:=kS 302 Zl LW
def Jt:Nat→List Nat:=(fun _=>[])
theorem ahl [Env] (A:Nat→List SV→Prop) (Q:V→St→Prop) (c:an):WE Tryz.prog 305 Tryz.f305 LX 0 Jt A Q [an.enc c] Go.Ev.start=
  (Q (.slice 1 0 (1) (1) true 1) ⟨(St.new (St.new Go.Ev.start 0 (.cells 18 [] (ah (an.cells c) .leaf 0) true false)) 1 (.cells 1 [] (ah [.str c.f1] .leaf 0) true false)).heap,2⟩):=by kernel_rfl
def Zm [Env] (vs:List V) (σ:St) (k:ai):Prop:=
 ∃c:an,vs=[an.enc c]∧k (af V.str 1 ([c.f1])) σ
def LY [Env]:=kS 305 Zm LX
def Ju:Nat→List Nat:=(fun _=>[])
theorem ahm [Env] (A:Nat→List SV→Prop) (Q:V→St→Prop) (c:an):WE Tryz.prog 308 Tryz.f308 LY 0 Ju A Q [an.enc c] Go.Ev.start=
  (Q (.slice 1 0 (1) (1) true 1) ⟨(St.new (St.new Go.Ev.start 0 (.cells 18 [] (ah (an.cells c) .leaf 0) true false)) 1 (.cells 1 [] (ah [.str c.f1] .leaf 0) true false)).heap,2⟩):=by kernel_rfl
def Zn [Env] (vs:List V) (σ:St) (k:ai):Prop:=
 ∃c:an,vs=[an.enc c]∧k (af V.str 1 ([c.f1])) σ
def LZ [Env]:=kS 308 Zn LY
def Jv:Nat→List Nat:=(fun _=>[])
theorem ahn [Env] (A:Nat→List SV→Prop) (Q:V→St→Prop) (c:an):WE Tryz.prog 310 Tryz.f310 LZ 0 Jv A Q [an.enc c] Go.Ev.start=
  (Q (.slice 1 0 (1) (1) true 1) ⟨(St.new (St.new Go.Ev.start 0 (.cells 18 [] (ah (an.cells c) .leaf 0) true false)) 1 (.cells 1 [] (ah [.str c.f1] .leaf 0) true false)).heap,2⟩):=by kernel_rfl
def Zo [Env] (vs:List V) (σ:St) (k:ai):Prop:=
 ∃c:an,vs=[an.enc c]∧k (af V.str 1 ([c.f1])) σ
def CL [Env]:=kS 310 Zo LZ
def Jw:Nat→List Nat:=(fun _=>[])
theorem aho [Env] (A:Nat→List SV→Prop) (Q:V→St→Prop) (c:an):WE Tryz.prog 313 Tryz.f313 CL 0 Jw A Q [an.enc c] Go.Ev.start=
  (Q (.slice 1 0 (2) (2) true 1) ⟨(St.new (St.new Go.Ev.start 0 (.cells 18 [] (ah (an.cells c) .leaf 0) true false)) 1 (.cells 2 [] (ah [.str c.f1,.str c.f2] .leaf 0) true false)).heap,2⟩):=by kernel_rfl
def Zp [Env] (vs:List V) (σ:St) (k:ai):Prop:=
 ∃c:an,vs=[an.enc c]∧k (af V.str 1 ([c.f1,c.f2])) σ
def CM [Env]:=kS 313 Zp CL
def On:Nat→List Nat:=(fun _=>[])
theorem e71 [Env] (A:Nat→List SV→Prop) (Q:V→St→Prop) (c:an):WE Tryz.prog 71 Tryz.f71 CM 0 On A Q [an.enc c] Go.Ev.start=
  (((.i64:IntKind)=.i64∧aa (decide (c.f0=(1:Int))) (Q (.iface 159 (.agg (an.cells c))) ⟨(St.new Go.Ev.start 0 (.cells 18 [] (ah (an.cells c) .leaf 0) true false)).heap,1⟩) (((.i64:IntKind)=.i64∧aa (decide (c.f0=(2:Int))) (Q (.iface 160 (.agg (an.cells c))) ⟨(St.new Go.Ev.start 0 (.cells 18 [] (ah (an.cells c) .leaf 0) true false)).heap,1⟩) (((.i64:IntKind)=.i64∧aa (decide (c.f0=(3:Int))) (Q (.iface 161 (.agg (an.cells c))) ⟨(St.new Go.Ev.start 0 (.cells 18 [] (ah (an.cells c) .leaf 0) true false)).heap,1⟩) (((.i64:IntKind)=.i64∧aa (decide (c.f0=(4:Int))) (Q (.iface 162 (.agg (an.cells c))) ⟨(St.new Go.Ev.start 0 (.cells 18 [] (ah (an.cells c) .leaf 0) true false)).heap,1⟩) (((.i64:IntKind)=.i64∧aa (decide (c.f0=(5:Int))) (Q (.iface 163 (.agg (an.cells c))) ⟨(St.new Go.Ev.start 0 (.cells 18 [] (ah (an.cells c) .leaf 0) true false)).heap,1⟩) (((.i64:IntKind)=.i64∧aa (decide (c.f0=(6:Int))) (Q (.iface 164 (.agg (an.cells c))) ⟨(St.new Go.Ev.start 0 (.cells 18 [] (ah (an.cells c) .leaf 0) true false)).heap,1⟩) (Q (.bd) ⟨(St.new Go.Ev.start 0 (.cells 18 [] (ah (an.cells c) .leaf 0) true false)).heap,1⟩))))))))))))):=by kernel_rfl
def W71 [Env] (vs:List V) (σ:St) (k:ai):Prop:=
 ∃c:an,vs=[an.enc c]∧(c.f0=1→k (.iface 159 (an.enc c)) σ)∧(c.f0=2→k (.iface 160 (an.enc c)) σ)∧(c.f0=3→k (.iface 161 (an.enc c)) σ)∧(c.f0=4→k (.iface 162 (an.enc c)) σ)∧(c.f0=5→k (.iface 163 (an.enc c)) σ)∧(c.f0=6→k (.iface 164 (an.enc c)) σ)∧((c.f0<1∨6<c.f0)→k .bd σ)
def oX [Env]:=kS 71 W71 CM
def pK:Nat→List Nat:=(fun _=>[])
theorem ach [Env] (A:Nat→List SV→Prop) (Q:V→Prop) (c:an):WE Tryz.prog 72 Tryz.f72 oX 0 pK A (fun v _=>Q v) [.iface 159 (an.enc c)] Go.Ev.start=
  (Q (.bool true)):=by kernel_rfl
theorem aci [Env] (A:Nat→List SV→Prop) (Q:V→Prop) (c:an):WE Tryz.prog 72 Tryz.f72 oX 0 pK A (fun v _=>Q v) [.iface 160 (an.enc c)] Go.Ev.start=
  (Q (.bool false)):=by kernel_rfl
theorem acj [Env] (A:Nat→List SV→Prop) (Q:V→Prop) (c:an):WE Tryz.prog 72 Tryz.f72 oX 0 pK A (fun v _=>Q v) [.iface 161 (an.enc c)] Go.Ev.start=
  (Q (.bool false)):=by kernel_rfl
theorem ack [Env] (A:Nat→List SV→Prop) (Q:V→Prop) (c:an):WE Tryz.prog 72 Tryz.f72 oX 0 pK A (fun v _=>Q v) [.iface 162 (an.enc c)] Go.Ev.start=
  (Q (.bool false)):=by kernel_rfl
theorem acm [Env] (A:Nat→List SV→Prop) (Q:V→Prop) (c:an):WE Tryz.prog 72 Tryz.f72 oX 0 pK A (fun v _=>Q v) [.iface 163 (an.enc c)] Go.Ev.start=
  (Q (.bool false)):=by kernel_rfl
theorem acn [Env] (A:Nat→List SV→Prop) (Q:V→Prop) (c:an):WE Tryz.prog 72 Tryz.f72 oX 0 pK A (fun v _=>Q v) [.iface 164 (an.enc c)] Go.Ev.start=
  (Q (.bool false)):=by kernel_rfl
def Zq [Env] (vs:List V) (σ:St) (k:ai):Prop:=
 match vs with
 | [.iface t _]=>∃c:an,vs=[.iface t (an.enc c)]∧(t=159∨t=160∨t=161∨t=162∨t=163∨t=164)∧k (.bool (Nat.beq t 159)) σ
 | _=>False
def CN [Env]:=kS 72 Zq oX
def Oo:Nat→List Nat:=(fun _=>[])
theorem e34 [Env] (A:Nat→List SV→Prop) (Q:V→St→Prop) (c:an):WE Tryz.prog 34 Tryz.f34 CN 0 Oo A Q [an.enc c] Go.Ev.start=
  ((∃lC:an,[.agg (an.cells c)]=[an.enc lC]∧(lC.f0=1→(∃ahp:an,[an.enc lC]=[an.enc ahp]∧Q (af V.str 1 ((([]:List (List UInt8))))) ⟨(St.new Go.Ev.start 0 (.cells 18 [] (ah (an.cells c) .leaf 0) true false)).heap,1⟩))∧(lC.f0=2→(∃Zr:an,[an.enc lC]=[an.enc Zr]∧Q (af V.str 1 (([Zr.f1]))) ⟨(St.new Go.Ev.start 0 (.cells 18 [] (ah (an.cells c) .leaf 0) true false)).heap,1⟩))∧(lC.f0=3→(∃Zs:an,[an.enc lC]=[an.enc Zs]∧Q (af V.str 1 (([Zs.f1]))) ⟨(St.new Go.Ev.start 0 (.cells 18 [] (ah (an.cells c) .leaf 0) true false)).heap,1⟩))∧(lC.f0=4→(∃Zt:an,[an.enc lC]=[an.enc Zt]∧Q (af V.str 1 (([Zt.f1]))) ⟨(St.new Go.Ev.start 0 (.cells 18 [] (ah (an.cells c) .leaf 0) true false)).heap,1⟩))∧(lC.f0=5→(∃Zu:an,[an.enc lC]=[an.enc Zu]∧Q (af V.str 1 (([Zu.f1]))) ⟨(St.new Go.Ev.start 0 (.cells 18 [] (ah (an.cells c) .leaf 0) true false)).heap,1⟩))∧(lC.f0=6→(∃Rw:an,[an.enc lC]=[an.enc Rw]∧Q (af V.str 1 (([Rw.f1,Rw.f2]))) ⟨(St.new Go.Ev.start 0 (.cells 18 [] (ah (an.cells c) .leaf 0) true false)).heap,1⟩))∧((lC.f0<1∨6<lC.f0)→Q (.aj) ⟨(St.new Go.Ev.start 0 (.cells 18 [] (ah (an.cells c) .leaf 0) true false)).heap,1⟩))):=by kernel_rfl
def W34 [Env] (vs:List V) (σ:St) (k:ai):Prop:=
 ∃c:an,vs=[an.enc c]∧k (af V.str 1 (aN c)) σ
def CO [Env]:=kS 34 W34 CN
def Oq:Nat→List Nat:=(fun _=>[])
theorem TM [Env] (A:Nat→List SV→Prop) (Q:V→St→Prop) (c:an):WE Tryz.prog 35 Tryz.f35 CO 0 Oq A Q [an.enc c] Go.Ev.start=
  (((.i64:IntKind)=.i64∧aa (decide (c.f0=(2:Int))) (Q (.slice 1 0 (1) (1) true 1) ⟨(St.new (St.new Go.Ev.start 0 (.cells 18 [] (ah (an.cells c) .leaf 0) true false)) 1 (.cells 1 [] (ah [.str c.f1] .leaf 0) true false)).heap,2⟩) (((.i64:IntKind)=.i64∧aa (decide (c.f0=(3:Int))) (Q (.slice 1 0 (1) (1) true 1) ⟨(St.new (St.new Go.Ev.start 0 (.cells 18 [] (ah (an.cells c) .leaf 0) true false)) 1 (.cells 1 [] (ah [.str c.f1] .leaf 0) true false)).heap,2⟩) (((.i64:IntKind)=.i64∧aa (decide (c.f0=(4:Int))) (Q (.slice 1 0 (1) (1) true 1) ⟨(St.new (St.new Go.Ev.start 0 (.cells 18 [] (ah (an.cells c) .leaf 0) true false)) 1 (.cells 1 [] (ah [.str c.f1] .leaf 0) true false)).heap,2⟩) (((.i64:IntKind)=.i64∧aa (decide (c.f0=(5:Int))) (Q (.slice 1 0 (1) (1) true 1) ⟨(St.new (St.new Go.Ev.start 0 (.cells 18 [] (ah (an.cells c) .leaf 0) true false)) 1 (.cells 1 [] (ah [.str c.f1] .leaf 0) true false)).heap,2⟩) (((.i64:IntKind)=.i64∧aa (decide (c.f0=(6:Int))) (Q (.slice 1 0 (2) (2) true 1) ⟨(St.new (St.new Go.Ev.start 0 (.cells 18 [] (ah (an.cells c) .leaf 0) true false)) 1 (.cells 2 [] (ah [.str c.f1,.str c.f2] .leaf 0) true false)).heap,2⟩) (Q (.aj) ⟨(St.new Go.Ev.start 0 (.cells 18 [] (ah (an.cells c) .leaf 0) true false)).heap,1⟩))))))))))):=by kernel_rfl
def W35 [Env] (vs:List V) (σ:St) (k:ai):Prop:=
 ∃c:an,vs=[an.enc c]∧k (af V.str 1 (aN c)) σ
def CP [Env]:=kS 35 W35 CO
end Go.Proofs.YtbajncpfmemdgaaGreatDoor
end
section
namespace Go.Proofs.YtbajncpfmemdgaaGreatDoor
open Go Go.Ev Go.IntWalk
theorem F122:bc Tryz.prog 122 Tryz.f122:=.of (by kernel_rfl) (by kernel_rfl)
theorem F73:bc Tryz.prog 73 Tryz.f73:=.of (by kernel_rfl) (by kernel_rfl)
theorem F250:bc Tryz.prog 250 Tryz.f250:=.of (by kernel_rfl) (by kernel_rfl)
theorem F226:bc Tryz.prog 226 Tryz.f226:=.of (by kernel_rfl) (by kernel_rfl)
theorem F127:bc Tryz.prog 127 Tryz.f127:=.of (by kernel_rfl) (by kernel_rfl)
theorem F74:bc Tryz.prog 74 Tryz.f74:=.of (by kernel_rfl) (by kernel_rfl)
theorem F128:bc Tryz.prog 128 Tryz.f128:=.of (by kernel_rfl) (by kernel_rfl)
theorem F307:bc Tryz.prog 307 Tryz.f307:=.of (by kernel_rfl) (by kernel_rfl)
theorem F304:bc Tryz.prog 304 Tryz.f304:=.of (by kernel_rfl) (by kernel_rfl)
theorem F312:bc Tryz.prog 312 Tryz.f312:=.of (by kernel_rfl) (by kernel_rfl)
theorem F154:bc Tryz.prog 154 Tryz.f154:=.of (by kernel_rfl) (by kernel_rfl)
theorem F33:bc Tryz.prog 33 Tryz.f33:=.of (by kernel_rfl) (by kernel_rfl)
theorem F301:bc Tryz.prog 301 Tryz.f301:=.of (by kernel_rfl) (by kernel_rfl)
theorem F299:bc Tryz.prog 299 Tryz.f299:=.of (by kernel_rfl) (by kernel_rfl)
theorem F302:bc Tryz.prog 302 Tryz.f302:=.of (by kernel_rfl) (by kernel_rfl)
theorem F305:bc Tryz.prog 305 Tryz.f305:=.of (by kernel_rfl) (by kernel_rfl)
theorem F308:bc Tryz.prog 308 Tryz.f308:=.of (by kernel_rfl) (by kernel_rfl)
theorem F310:bc Tryz.prog 310 Tryz.f310:=.of (by kernel_rfl) (by kernel_rfl)
theorem F313:bc Tryz.prog 313 Tryz.f313:=.of (by kernel_rfl) (by kernel_rfl)
theorem F71:bc Tryz.prog 71 Tryz.f71:=.of (by kernel_rfl) (by kernel_rfl)
theorem F72:bc Tryz.prog 72 Tryz.f72:=.of (by kernel_rfl) (by kernel_rfl)
theorem F34:bc Tryz.prog 34 Tryz.f34:=.of (by kernel_rfl) (by kernel_rfl)
theorem F35:bc Tryz.prog 35 Tryz.f35:=.of (by kernel_rfl) (by kernel_rfl)
section
variable [Env] [aL] {vs:List V} {σ:St} {k:ai}
theorem Zv (h:W27 vs σ k):ag Tryz.prog 27 vs k σ:=by
 obtain⟨l,rfl⟩:=h.1
 have hc:Go.Ev.Clean (af ae.enc 3 l):=bE l
 refine vo (vn hc) ?_ h
 by_cases hl:l.length≤20
 ·refine F27.bV (live:=rQ) (call:=vz) (n₀:=0) (fun h=>rR h) rfl 1 (by kernel_rfl) Nat.lt_wfRel.wf (fun _ ss=>30-bF ss) (NY ae.enc 3 l) (qx hc) ?_ ?_
  ·rw[NA]
   exact⟨rfl,aa.mk (fun e=>absurd (of_decide_eq_true e) (by omega)) fun _=>⟨0,by omega,by omega,rfl⟩⟩
  ·intro k hk ss hI
   obtain rfl:k=0:=by omega
   obtain⟨i,h0,h1,rfl⟩:=hI
   rw[r27]
   refine⟨rfl,aa.mk (fun e=>?_) fun _=>z1⟩
   have e:=of_decide_eq_true e
   refine⟨⟨h0,e⟩,⟨_,rfl⟩,⟨rfl,z0⟩,rfl,⟨i+1,by omega,by omega,by rw[i64_in _ (by omega)]⟩,?_⟩
   rw[i64_in _ (by omega),jh,jh]
   show 30-(i+1).toNat<30-i.toNat
   omega
 ·refine F27.bV (live:=rQ) (call:=vz) (n₀:=0) (fun h=>rR h) rfl 1 (by kernel_rfl) Nat.lt_wfRel.wf (fun _ _=>0) (fun _ _=>False) (fun _ _ h=>h.elim) ?_ fun _ _ _ h=>h.elim
  rw[NA]
  exact⟨rfl,aa.mk (fun _=>z0) fun e=>absurd (of_decide_eq_false e) (by omega)⟩
theorem Jx:∀ {f:FuncId} {vs:List V} {σ:St} {k:ai},E6 f vs σ k→ag Tryz.prog f vs k σ:=fun h=>aD Zv rR h
def ahq (s:List UInt8) (n:Nat) (q:Nat→List UInt8):Nat→List SV→Prop
 | 0,ss=>∃i:Nat,i≤n∧(∀j,j<i→q j≠s)∧ss=[.val (V.arr n (fun i=>V.str (q i)) 1 false false),.val (.str s),.val (.int .i64 ((n:Nat):Int)),.val (.int .i64 i)]
 | _,_=>False
theorem VF (h:QY vs σ k):ag Tryz.prog 122 vs k σ:=by
 unfold QY at h
 split at h
 ·rename_i n f s
  obtain⟨q,rfl,hn,h⟩:=h
  refine ag.cb (ar (lT n q) (ar (Go.Ev.Clean.str _) aG)) (.int _ _) ?_ h
  refine F122.bV (live:=A1) (call:=E6) (n₀:=0) (σ:=Go.Ev.start) (fun h=>Jx h) rfl 1 (by kernel_rfl) Nat.lt_wfRel.wf (fun _ ss=>n-bF ss) (ahq s n q) ?_ ?_ ?_
  ·intro k ss hI
   cases k with
   | zero=>obtain⟨i,_,_,rfl⟩:=hI;exact o9 (gv (ay (ay bg)))
   | succ k=>exact hI.elim
  ·rw[ag7]
   exact⟨0,by omega,fun j hj=>absurd hj (Nat.not_lt_zero j),rfl⟩
  ·intro k hk ss hI
   obtain rfl:k=0:=by omega
   obtain⟨i,hi,hj,rfl⟩:=hI
   rw[ag8]
   refine⟨rfl,aq (fun h1=>⟨⟨by omega,by omega⟩,aq (fun h2=>?_) fun h2=>?_⟩) fun h1=>?_⟩
   ·rw[cA] at h2
    rw[kD s q n i (by omega) h2.symm hj]
   ·rw[cA] at h2
    rw[i64_in ((i:Int)+1) (by omega)]
    refine⟨⟨i+1,by omega,fun j gK=>?_,rfl⟩,?_⟩
    ·by_cases e:j=i
     ·rw[e];exact fun h=>h2 h.symm
     ·exact hj j (by omega)
    ·show n-((i:Int)+1).toNat<n-(i:Int).toNat
     omega
   ·obtain rfl:i=n:=by omega
    rw[iA s q i hj]
 ·exact h.elim
theorem Jy:∀ {f:FuncId} {vs:List V} {σ:St} {k:ai},LO f vs σ k→ag Tryz.prog f vs k σ:=fun h=>aD VF Jx h
theorem Zw (h:Y8 vs σ k):ag Tryz.prog 73 vs k σ:=by
 unfold Y8 at h
 split at h
 ·rename_i n f s
  obtain⟨q,rfl,hn,h⟩:=h
  refine ag.cb (ar (lT n q) (ar (Go.Ev.Clean.str _) aG)) (.bool _) (F73.flat (live:=Om) (call:=LO) (n₀:=0) (σ:=Go.Ev.start) (fun h=>Jy h) rfl (by kernel_rfl) ?_) h
  rw[e73]
  exact⟨q,rfl,hn,rfl,aq (fun h=>by rw[decide_eq_true h]) fun h=>by rw[decide_eq_false h]⟩
 ·exact h.elim
theorem Jz:∀ {f:FuncId} {vs:List V} {σ:St} {k:ai},LP f vs σ k→ag Tryz.prog f vs k σ:=fun h=>aD Zw Jy h
theorem VG (h:QZ vs σ k):ag Tryz.prog 250 vs k σ:=by
 unfold QZ at h
 split at h
 ·rename_i n f s
  obtain⟨q,rfl,hn,h⟩:=h
  refine ag.cb (ar (lT n q) (ar (Go.Ev.Clean.str _) aG)) (.int _ _) (F250.flat (live:=Jm) (call:=LP) (n₀:=0) (σ:=Go.Ev.start) (fun h=>Jz h) rfl (by kernel_rfl) ?_) h
  rw[ag9]
  exact⟨q,rfl,hn,rfl⟩
 ·exact h.elim
theorem JA:∀ {f:FuncId} {vs:List V} {σ:St} {k:ai},LQ f vs σ k→ag Tryz.prog f vs k σ:=fun h=>aD VG Jz h
theorem JB (h:Zc vs σ k):ag Tryz.prog 226 vs k σ:=by
 obtain⟨t,s,rfl,hn,h⟩:=h
 refine ag.cb (ar t.aE (ar (Go.Ev.Clean.str _) aG)) (.int _ _) (F226.flat (live:=Jn) (call:=LQ) (n₀:=0) (σ:=Go.Ev.start) (fun h=>JA h) rfl (by kernel_rfl) ?_) h
 rw[aha]
 exact⟨_,rfl,hn,_,rfl,by omega,rfl⟩
theorem JC:∀ {f:FuncId} {vs:List V} {σ:St} {k:ai},LR f vs σ k→ag Tryz.prog f vs k σ:=fun h=>aD JB JA h
theorem VH (h:Ze vs σ k):ag Tryz.prog 127 vs k σ:=by
 obtain⟨t,s,rfl,hn,h⟩:=h
 refine ag.cb (ar t.aE (ar (Go.Ev.Clean.str _) aG)) (.int _ _) (F127.flat (live:=Jo) (call:=LR) (n₀:=0) (σ:=Go.Ev.start) (fun h=>JC h) rfl (by kernel_rfl) ?_) h
 rw[ahb]
 exact⟨_,rfl,hn,_,rfl,by omega,rfl⟩
theorem A5:∀ {f:FuncId} {vs:List V} {σ:St} {k:ai},Fb f vs σ k→ag Tryz.prog f vs k σ:=fun h=>aD VH JC h
omit [aL] in
theorem fO {τ:St} {cs:List V} (h:∀v∈cs,Go.Ev.Clean v):bA τ cs cs:=bA.clean h
omit [aL] in
theorem aK.row {σ:St} {k:ai} {v:V} {τ:St} {b n esz:Nat} {g:Nat→V} (h:ni τ b n g esz v) (hk:k (.own σ.next n esz) (σ.new σ.next (.row n g esz false))):aK σ k v τ:=.inr (.inl ⟨_,_,_,_,h,hk⟩)
omit [aL] in
theorem aK.pair {σ:St} {k:ai} {w e e':V} {τ:St} {b n esz:Nat} {g:Nat→V} (h:ni τ b n g esz w) (he:ei (τ.kill b) e e') (hk:k (.tuple [.own σ.next n esz,e']) (σ.new σ.next (.row n g esz false))):aK σ k (.tuple [w,e]) τ:=.inr (.inr ⟨_,_,_,_,_,_,_,rfl,h,he,hk⟩)
omit [aL] in
theorem aK.gf {σ:St} {k:ai} {v u:V} {τ:St} (h:ei τ v u) (hk:k u σ):aK σ k v τ:=.inl ⟨_,h,hk⟩
omit [aL] in
theorem Ot {n:Nat} {f:Nat→V} {esz:Nat} {ex:Bool} {x:Value} {ρ:Go.Ev.Ren} (hn:0<n) (h:au ρ (.arr n f esz ex false) x):au ρ (.arr n f esz ex true) x:=by
 cases h with
 | arr _ h=>
  refine .arr (fun _=>?_) h
  have hl:=aY n f
  generalize cj n f=es at h hl
  cases h with
  | br hu hx hi hc he=>exact⟨_,_,_,rfl⟩
  | dS=>simp at hl;omega
  | du he=>simp at hl;omega
theorem Zx (h:W74 vs σ k):ag Tryz.prog 74 vs k σ:=by
 obtain⟨l,rfl,hn,h⟩:=h
 refine ag.aV (us:=[af ak.enc 7 l]) (ar (er l) aG) (bX.imp (us:=[KO ak.enc 7 l]) (fun ρ xs hx=>?_) (F74.cd (live:=Fc) (call:=Fb) (fun h=>A5 h) (by kernel_rfl) ?_))
 ·cases hx with
  | cons h1 h2=>exact .cons (Ot hn.1 h1) h2
 ·rw[e74]
  refine aq (fun h1=>by omega) fun h1=>⟨by omega,aK.row (.own (f:=fun i=>ak.enc (l.getD i default)) (g:=fun i=>ak.enc (l.getD i default)) (p:=true) (by rfl) fun i hi=>fO (ak.clean _)) h⟩
theorem JD:∀ {f:FuncId} {vs:List V} {σ:St} {k:ai},A2 f vs σ k→ag Tryz.prog f vs k σ:=fun h=>aD Zx A5 h
omit [Env] [aL] in
theorem bp.one (x:ak):bp 1 (fun _=>.agg (ak.cells x)) [x]:=⟨rfl,fun i hi=>by
 obtain rfl:=Nat.lt_one_iff.1 hi
 rfl⟩
omit [Env] [aL] in
theorem bp.push {n:Nat} {f:Nat→V} {l:List ak} (h:bp n f l) (x:ak):bp (n+1) (cw n f fun _=>.agg (ak.cells x)) (l++[x]):=by
 obtain⟨rfl,h2⟩:=h
 refine⟨by simp,fun i hi=>?_⟩
 by_cases e:i=l.length
 ·subst e;rw[Ay];simp [List.getD_eq_getElem?_getD];rfl
 ·rw[Ax _ _ (by omega),h2 i (by omega)]
  simp [List.getD_eq_getElem?_getD,List.getElem?_append_left (show i<l.length by omega)]
omit [aL] in
theorem bp.cl {n:Nat} {f:Nat→V} {l:List ak} (h:bp n f l):∀i,i<n→∀u∈(f i).cells,Go.Ev.Clean u:=fun i hi u hu=>by
 rw[h.2 i hi] at hu;exact ak.clean _ u hu
def qW (l:List ak) (a:Int) (n:Nat):List ak:=bh (fun i=>decide ((i:Int)≠a)) (fun i=>l.getD i default) n
def ahr (l:List ak) (a:Int):Nat→List SV→Prop
 | 0,ss=>∃i:Nat,i≤l.length∧((qW l a i=[]∧ss=[.val (af ak.enc 7 l),.val (.int .i64 a),.val .aj,.val (.int .i64 (i:Int))])∨
   ∃n f,0<n∧bp n f (qW l a i)∧ss=[.val (af ak.enc 7 l),.val (.int .i64 a),.row n f 7,.val (.int .i64 (i:Int))])
 | _,_=>False
omit [Env] [aL] in
theorem kj {α:Type} (p:Nat→Bool) (q:Nat→α):∀n,(bh p q n).length≤n
 | 0=>Nat.le_refl _
 | n+1=>by
  show(if p n=true then bh p q n++[q n] else bh p q n).length≤n+1
  have:=kj p q n
  split
  ·simp;omega
  ·omega
omit [Env] [aL] in
theorem wM {α:Type} {p:Nat→Bool} {q:Nat→α} {n:Nat} (h:p n=true):bh p q (n+1)=bh p q n++[q n]:=if_pos h
omit [Env] [aL] in
theorem xR {α:Type} {p:Nat→Bool} {q:Nat→α} {n:Nat} (h:¬p n=true):bh p q (n+1)=bh p q n:=if_neg h
theorem VI (h:Zf vs σ k):ag Tryz.prog 128 vs k σ:=by
 obtain⟨l,a,rfl,hn,h1,h2⟩:=h
 refine ag.aV (ar (er l) (ar (Go.Ev.Clean.int _ _) aG)) (F128.gV (live:=wL) (call:=A2) (fun h=>JD h) 1 (by kernel_rfl) Nat.lt_wfRel.wf (fun _ ss=>l.length-bF ss) (ahr l a) ?_ ?_ ?_)
 ·intro k ss hI
  cases k with
  | zero=>
   obtain⟨i,_,⟨_,rfl⟩ | ⟨n,f,_,hr,rfl⟩⟩:=hI
   ·exact ax (er l) (ay (ax Go.Ev.Clean.aj (ay bg)))
   ·exact ax (er l) (ay (ax (hr.cl) (ay bg)))
  | succ k=>exact hI.elim
 ·rw[ahc]
  exact⟨0,by omega,.inl ⟨rfl,rfl⟩⟩
 ·intro k hk ss hI
  obtain rfl:k=0:=by omega
  obtain⟨i,hi,⟨he,rfl⟩ | ⟨n,f,h0,hr,rfl⟩⟩:=hI
  ·rw[acf]
   refine⟨rfl,aq (fun h3=>⟨rfl,aq (fun h4=>⟨⟨by omega,by omega⟩,⟨rfl,rfl,rfl⟩,?_⟩) fun h4=>?_⟩) fun h3=>?_⟩
   ·rw[cA,i64_in ((i:Int)+1) (by omega)]
    refine⟨⟨i+1,by omega,.inr ⟨1,_,by omega,?_,rfl⟩⟩,?_⟩
    ·have:qW l a (i+1)=[l.getD i default]:=(wM (decide_eq_true h4)).trans (by show qW l a i++_=_;rw[he];rfl)
     rw[this];exact bp.one _
    ·show l.length-((i:Int)+1).toNat<l.length-(i:Int).toNat
     omega
   ·rw[i64_in ((i:Int)+1) (by omega)]
    refine⟨⟨i+1,by omega,.inl ⟨(xR (by rw[decide_eq_false h4];exact Bool.false_ne_true)).trans he,rfl⟩⟩,?_⟩
    show l.length-((i:Int)+1).toNat<l.length-(i:Int).toNat
    omega
   ·obtain rfl:i=l.length:=by omega
    exact aK.gf .aj (h1 he)
  ·rw[acg]
   have Dd:n≤1000:=by
    have:=kj (fun i=>decide ((i:Int)≠a)) (fun i=>l.getD i default) i
    have h3:n=(qW l a i).length:=hr.1
    unfold qW at h3
    omega
   refine⟨rfl,aq (fun h3=>⟨rfl,aq (fun h4=>⟨⟨by omega,by omega⟩,⟨rfl,by omega⟩,⟨rfl,rfl⟩,?_⟩) fun h4=>⟨⟨rfl,rfl⟩,?_⟩⟩) fun h3=>?_⟩
   ·rw[cA,i64_in ((i:Int)+1) (by omega)]
    refine⟨⟨i+1,by omega,.inr ⟨n+1,_,by omega,?_,rfl⟩⟩,?_⟩
    ·have:qW l a (i+1)=qW l a i++[l.getD i default]:=wM (decide_eq_true h4)
     rw[this];exact hr.push _
    ·show l.length-((i:Int)+1).toNat<l.length-(i:Int).toNat
     omega
   ·rw[i64_in ((i:Int)+1) (by omega)]
    refine⟨⟨i+1,by omega,.inr ⟨n,f,h0,?_,rfl⟩⟩,?_⟩
    ·have:qW l a (i+1)=qW l a i:=xR (by rw[decide_eq_false h4];exact Bool.false_ne_true)
     rw[this];exact hr
    ·show l.length-((i:Int)+1).toNat<l.length-(i:Int).toNat
     omega
   ·obtain rfl:i=l.length:=by omega
    exact aK.row (.own (p:=false) (by rfl) fun j hj=>fO (hr.cl j hj)) (h2 n f h0 hr)
theorem cE:∀ {f:FuncId} {vs:List V} {σ:St} {k:ai},cm f vs σ k→ag Tryz.prog f vs k σ:=fun h=>aD VI JD h
end
end Go.Proofs.YtbajncpfmemdgaaGreatDoor
end
