/- Proved: parts of the way: BEq19, BD1, BD2, BD3. -/
import Derived.Test.YtbajncpfmemdgaaGreatDoorEvQ18
set_option linter.unusedVariables false
set_option linter.unusedSimpArgs false
section
namespace Go.Proofs.YtbajncpfmemdgaaGreatDoor
open Go Go.Ev
def Gc:Nat→List Nat:=(fun _=>[])
theorem aa9 [Env] (A:Nat→List SV→Prop) (Q:V→Prop) (e:aj):WE Tryz.prog 304 Tryz.f304 IB 0 Gc A (fun v _=>Q v) [aj.enc e] Go.Ev.start=
  ((∃Dd:aj,[.agg (aj.cells e)]=[aj.enc Dd]∧tT Dd∧(bR Dd=0→Q (.int .i64 (0:Int)))∧(bR Dd≠0→Q (.int .i64 (bR Dd))))):=by kernel_rfl
def Ub [Env] (vs:List V) (σ:St) (k:ah):Prop:=
 ∃e:aj,vs=[aj.enc e]∧tT e∧k (.int .i64 (bR e)) σ
def De [Env]:=kS 304 Ub IB
def zQ:Nat→List Nat:=(fun i=>match i with | 0=>[3,6,7,8] | _=>[])
theorem aba [Env] (A:Nat→List SV→Prop) (Q:V→Prop) (l:List Int):WE Tryz.prog 312 Tryz.f312 De 0 zQ A (fun v _=>Q v) [ae (V.int .i64) 1 l] Go.Ev.start=
  (A 0 [.val (.int .i64 (0:Int)),.val (ae (V.int .i64) 1 l),.val (.int .i64 (((l.length:Nat):Int))),.val (.int .i64 (0:Int))]):=by kernel_rfl
theorem abb [Env] (A:Nat→List SV→Prop) (Q:V→Prop) (l:List Int) (m i:Int):WL Tryz.prog 312 Tryz.f312 De 0 zQ A (fun v _=>Q v) 0 [.val (.int .i64 (0:Int)),.val (ae (V.int .i64) 1 l),.val (.int .i64 m),.val (.int .i64 i)]=
  (((.i64:IntKind)=.i64∧af (decide (i<m)) (((0≤i∧i<((l.length:Nat):Int))∧((.i64:IntKind)=.i64∧af (decide (((l.getD i.toNat default))≠(0:Int))) (Q (.int .i64 ((l.getD i.toNat default)))) (A 0 [.val (.int .i64 (0:Int)),.val (ae (V.int .i64) 1 l),.val (.int .i64 m),.val (.int .i64 (IntKind.i64.wrap (i+(1:Int))))])))) (Q (.int .i64 (0:Int))))):=by kernel_rfl
def Uc [Env] (vs:List V) (σ:St) (k:ah):Prop:=
 ∃l:List Int,bn σ vs [ae (V.int .i64) 1 l]∧l.length≤1000∧k (.int .i64 (Py l)) σ
def Df [Env]:=kS 312 Uc De
def zR:Nat→List Nat:=(fun i=>match i with | 0=>[0,1,12,13] | _=>[])
theorem abc [Env] (A:Nat→List SV→Prop) (Q:V→Prop) (l m:List aj):WE Tryz.prog 154 Tryz.f154 Df 0 zR A (fun v _=>Q v) [ae aj.enc 7 l,ae aj.enc 7 m] Go.Ev.start=
  (((.i64:IntKind)=.i64∧af (decide ((((l.length:Nat):Int))≠(((m.length:Nat):Int)))) (Q (.bool false)) (A 0 [.val (ae aj.enc 7 l),.val (ae aj.enc 7 m),.val (.int .i64 (((l.length:Nat):Int))),.val (.int .i64 (0:Int))]))):=by kernel_rfl
theorem abd [Env] (A:Nat→List SV→Prop) (Q:V→Prop) (l m:List aj) (c i:Int):WL Tryz.prog 154 Tryz.f154 Df 0 zR A (fun v _=>Q v) 0 [.val (ae aj.enc 7 l),.val (ae aj.enc 7 m),.val (.int .i64 c),.val (.int .i64 i)]=
  (((.i64:IntKind)=.i64∧af (decide (i<c)) (((0≤i∧i<((l.length:Nat):Int))∧((0≤i∧i<((m.length:Nat):Int))∧af (decide (((l.getD i.toNat default).f0)=((m.getD i.toNat default).f0))) (((.i64:IntKind)=.i64∧af (decide (((l.getD i.toNat default).f1)=((m.getD i.toNat default).f1))) (af ((l.getD i.toNat default).f2==(m.getD i.toNat default).f2) (((.i64:IntKind)=.i64∧af (decide (((l.getD i.toNat default).f3.f0)=((m.getD i.toNat default).f3.f0))) (((.i64:IntKind)=.i64∧af (decide (((l.getD i.toNat default).f3.f1)=((m.getD i.toNat default).f3.f1))) (((.u64:IntKind)=.u64∧af (decide (((l.getD i.toNat default).f3.f2)=((m.getD i.toNat default).f3.f2))) (af (decide (((l.getD i.toNat default).f3.f3)=((m.getD i.toNat default).f3.f3))) (A 0 [.val (ae aj.enc 7 l),.val (ae aj.enc 7 m),.val (.int .i64 c),.val (.int .i64 (IntKind.i64.wrap (i+(1:Int))))]) (Q (.bool false))) (Q (.bool false)))) (Q (.bool false)))) (Q (.bool false)))) (Q (.bool false))) (Q (.bool false)))) (Q (.bool false))))) (Q (.bool true)))):=by kernel_rfl
def Ud [Env] (vs:List V) (σ:St) (k:ah):Prop:=
 ∃x y:List aj,vs=[ae aj.enc 7 x,ae aj.enc 7 y]∧x.length≤1000000∧∀b:Bool,(b=true↔x=y)→k (.bool b) σ
def IC [Env]:=kS 154 Ud Df
def Gd:Nat→List Nat:=(fun _=>[])
theorem abe [Env] (A:Nat→List SV→Prop) (Q:V→St→Prop) (t:aa) (e:Int):WE Tryz.prog 301 Tryz.f301 IC 0 Gd A Q [aa.enc t,.int .i64 e] Go.Ev.start=
  (((.i64:IntKind)=.i64∧af (decide (e≠(0:Int))) (Q (.tuple [.ai,.int .i64 e]) ⟨(St.new Go.Ev.start 0 (.cells 3 [] (an (aa.cells t) .leaf 0) true false)).heap,1⟩) (Q (.tuple [.slice 1 0 (1) (1) true 3,.int .i64 (0:Int)]) ⟨(St.new (St.new Go.Ev.start 0 (.cells 3 [] (an (aa.cells t) .leaf 0) true false)) 1 (.cells 3 [] (an (aa.cells t) .leaf 0) true false)).heap,2⟩))):=by kernel_rfl
def Ue [Env] (vs:List V) (σ:St) (k:ah):Prop:=
 ∃(t:aa) (e:Int),bn σ vs [aa.enc t,.int .i64 e]∧(e=0→k (.tuple [.own σ.next 1 3,.int .i64 0]) ((void σ.next).new σ.next (.row 1 (fun i=>aa.enc ([t].getD i default)) 3 false)))∧(e≠0→k (.tuple [.ai,.int .i64 e]) (void σ.next))
def ID [Env]:=kS 301 Ue IC
def Ge:Nat→List Nat:=(fun _=>[])
theorem abf [Env] (A:Nat→List SV→Prop) (Q:V→St→Prop) (c:ak):WE Tryz.prog 299 Tryz.f299 ID 0 Ge A Q [ak.enc c] Go.Ev.start=
  (Q (.ai) ⟨(St.new Go.Ev.start 0 (.cells 18 [] (an (ak.cells c) .leaf 0) true false)).heap,1⟩):=by kernel_rfl
def Uf [Env] (vs:List V) (σ:St) (k:ah):Prop:=
 ∃c:ak,vs=[ak.enc c]∧k (ae V.str 1 (([]:List (List UInt8)))) σ
def IE [Env]:=kS 299 Uf ID
def Gf:Nat→List Nat:=(fun _=>[])
theorem abg [Env] (A:Nat→List SV→Prop) (Q:V→St→Prop) (c:ak):WE Tryz.prog 302 Tryz.f302 IE 0 Gf A Q [ak.enc c] Go.Ev.start=
  (Q (.slice 1 0 (1) (1) true 1) ⟨(St.new (St.new Go.Ev.start 0 (.cells 18 [] (an (ak.cells c) .leaf 0) true false)) 1 (.cells 1 [] (an [.str c.f1] .leaf 0) true false)).heap,2⟩):=by kernel_rfl
def Ug [Env] (vs:List V) (σ:St) (k:ah):Prop:=
 ∃c:ak,vs=[ak.enc c]∧k (ae V.str 1 ([c.f1])) σ
def IF [Env]:=kS 302 Ug IE
def Gg:Nat→List Nat:=(fun _=>[])
theorem abh [Env] (A:Nat→List SV→Prop) (Q:V→St→Prop) (c:ak):WE Tryz.prog 305 Tryz.f305 IF 0 Gg A Q [ak.enc c] Go.Ev.start=
  (Q (.slice 1 0 (1) (1) true 1) ⟨(St.new (St.new Go.Ev.start 0 (.cells 18 [] (an (ak.cells c) .leaf 0) true false)) 1 (.cells 1 [] (an [.str c.f1] .leaf 0) true false)).heap,2⟩):=by kernel_rfl
def Uh [Env] (vs:List V) (σ:St) (k:ah):Prop:=
 ∃c:ak,vs=[ak.enc c]∧k (ae V.str 1 ([c.f1])) σ
def IG [Env]:=kS 305 Uh IF
def Gh:Nat→List Nat:=(fun _=>[])
theorem abi [Env] (A:Nat→List SV→Prop) (Q:V→St→Prop) (c:ak):WE Tryz.prog 308 Tryz.f308 IG 0 Gh A Q [ak.enc c] Go.Ev.start=
  (Q (.slice 1 0 (1) (1) true 1) ⟨(St.new (St.new Go.Ev.start 0 (.cells 18 [] (an (ak.cells c) .leaf 0) true false)) 1 (.cells 1 [] (an [.str c.f1] .leaf 0) true false)).heap,2⟩):=by kernel_rfl
def Ui [Env] (vs:List V) (σ:St) (k:ah):Prop:=
 ∃c:ak,vs=[ak.enc c]∧k (ae V.str 1 ([c.f1])) σ
def IH [Env]:=kS 308 Ui IG
def Gi:Nat→List Nat:=(fun _=>[])
theorem abj [Env] (A:Nat→List SV→Prop) (Q:V→St→Prop) (c:ak):WE Tryz.prog 310 Tryz.f310 IH 0 Gi A Q [ak.enc c] Go.Ev.start=
  (Q (.slice 1 0 (1) (1) true 1) ⟨(St.new (St.new Go.Ev.start 0 (.cells 18 [] (an (ak.cells c) .leaf 0) true false)) 1 (.cells 1 [] (an [.str c.f1] .leaf 0) true false)).heap,2⟩):=by kernel_rfl
def Uj [Env] (vs:List V) (σ:St) (k:ah):Prop:=
 ∃c:ak,vs=[ak.enc c]∧k (ae V.str 1 ([c.f1])) σ
def II [Env]:=kS 310 Uj IH
def Gj:Nat→List Nat:=(fun _=>[])
theorem abk [Env] (A:Nat→List SV→Prop) (Q:V→St→Prop) (c:ak):WE Tryz.prog 313 Tryz.f313 II 0 Gj A Q [ak.enc c] Go.Ev.start=
  (Q (.slice 1 0 (2) (2) true 1) ⟨(St.new (St.new Go.Ev.start 0 (.cells 18 [] (an (ak.cells c) .leaf 0) true false)) 1 (.cells 2 [] (an [.str c.f1,.str c.f2] .leaf 0) true false)).heap,2⟩):=by kernel_rfl
def Uk [Env] (vs:List V) (σ:St) (k:ah):Prop:=
 ∃c:ak,vs=[ak.enc c]∧k (ae V.str 1 ([c.f1,c.f2])) σ
def IJ [Env]:=kS 313 Uk II
def K4:Nat→List Nat:=(fun _=>[])
theorem e71 [Env] (A:Nat→List SV→Prop) (Q:V→St→Prop) (c:ak):WE Tryz.prog 71 Tryz.f71 IJ 0 K4 A Q [ak.enc c] Go.Ev.start=
  (((.i64:IntKind)=.i64∧af (decide (c.f0=(1:Int))) (Q (.iface 159 (.agg (ak.cells c))) ⟨(St.new Go.Ev.start 0 (.cells 18 [] (an (ak.cells c) .leaf 0) true false)).heap,1⟩) (((.i64:IntKind)=.i64∧af (decide (c.f0=(2:Int))) (Q (.iface 160 (.agg (ak.cells c))) ⟨(St.new Go.Ev.start 0 (.cells 18 [] (an (ak.cells c) .leaf 0) true false)).heap,1⟩) (((.i64:IntKind)=.i64∧af (decide (c.f0=(3:Int))) (Q (.iface 161 (.agg (ak.cells c))) ⟨(St.new Go.Ev.start 0 (.cells 18 [] (an (ak.cells c) .leaf 0) true false)).heap,1⟩) (((.i64:IntKind)=.i64∧af (decide (c.f0=(4:Int))) (Q (.iface 162 (.agg (ak.cells c))) ⟨(St.new Go.Ev.start 0 (.cells 18 [] (an (ak.cells c) .leaf 0) true false)).heap,1⟩) (((.i64:IntKind)=.i64∧af (decide (c.f0=(5:Int))) (Q (.iface 163 (.agg (ak.cells c))) ⟨(St.new Go.Ev.start 0 (.cells 18 [] (an (ak.cells c) .leaf 0) true false)).heap,1⟩) (((.i64:IntKind)=.i64∧af (decide (c.f0=(6:Int))) (Q (.iface 164 (.agg (ak.cells c))) ⟨(St.new Go.Ev.start 0 (.cells 18 [] (an (ak.cells c) .leaf 0) true false)).heap,1⟩) (Q (.aV) ⟨(St.new Go.Ev.start 0 (.cells 18 [] (an (ak.cells c) .leaf 0) true false)).heap,1⟩))))))))))))):=by kernel_rfl
def Zl [Env] (vs:List V) (σ:St) (k:ah):Prop:=
 ∃c:ak,vs=[ak.enc c]∧(c.f0=1→k (.iface 159 (ak.enc c)) σ)∧(c.f0=2→k (.iface 160 (ak.enc c)) σ)∧(c.f0=3→k (.iface 161 (ak.enc c)) σ)∧(c.f0=4→k (.iface 162 (ak.enc c)) σ)∧(c.f0=5→k (.iface 163 (ak.enc c)) σ)∧(c.f0=6→k (.iface 164 (ak.enc c)) σ)∧((c.f0<1∨6<c.f0)→k .aV σ)
def sB [Env]:=kS 71 Zl IJ
def o1:Nat→List Nat:=(fun _=>[])
theorem W5 [Env] (A:Nat→List SV→Prop) (Q:V→Prop) (c:ak):WE Tryz.prog 72 Tryz.f72 sB 0 o1 A (fun v _=>Q v) [.iface 159 (ak.enc c)] Go.Ev.start=
  (Q (.bool true)):=by kernel_rfl
theorem W6 [Env] (A:Nat→List SV→Prop) (Q:V→Prop) (c:ak):WE Tryz.prog 72 Tryz.f72 sB 0 o1 A (fun v _=>Q v) [.iface 160 (ak.enc c)] Go.Ev.start=
  (Q (.bool false)):=by kernel_rfl
theorem W7 [Env] (A:Nat→List SV→Prop) (Q:V→Prop) (c:ak):WE Tryz.prog 72 Tryz.f72 sB 0 o1 A (fun v _=>Q v) [.iface 161 (ak.enc c)] Go.Ev.start=
  (Q (.bool false)):=by kernel_rfl
theorem W8 [Env] (A:Nat→List SV→Prop) (Q:V→Prop) (c:ak):WE Tryz.prog 72 Tryz.f72 sB 0 o1 A (fun v _=>Q v) [.iface 162 (ak.enc c)] Go.Ev.start=
  (Q (.bool false)):=by kernel_rfl
theorem W9 [Env] (A:Nat→List SV→Prop) (Q:V→Prop) (c:ak):WE Tryz.prog 72 Tryz.f72 sB 0 o1 A (fun v _=>Q v) [.iface 163 (ak.enc c)] Go.Ev.start=
  (Q (.bool false)):=by kernel_rfl
theorem Xa [Env] (A:Nat→List SV→Prop) (Q:V→Prop) (c:ak):WE Tryz.prog 72 Tryz.f72 sB 0 o1 A (fun v _=>Q v) [.iface 164 (ak.enc c)] Go.Ev.start=
  (Q (.bool false)):=by kernel_rfl
def Ul [Env] (vs:List V) (σ:St) (k:ah):Prop:=
 match vs with
 | [.iface t _]=>∃c:ak,vs=[.iface t (ak.enc c)]∧(t=159∨t=160∨t=161∨t=162∨t=163∨t=164)∧k (.bool (Nat.beq t 159)) σ
 | _=>False
def IK [Env]:=kS 72 Ul sB
def K5:Nat→List Nat:=(fun _=>[])
theorem e34 [Env] (A:Nat→List SV→Prop) (Q:V→St→Prop) (c:ak):WE Tryz.prog 34 Tryz.f34 IK 0 K5 A Q [ak.enc c] Go.Ev.start=
  ((∃kR:ak,[.agg (ak.cells c)]=[ak.enc kR]∧(kR.f0=1→(∃abl:ak,[ak.enc kR]=[ak.enc abl]∧Q (ae V.str 1 ((([]:List (List UInt8))))) ⟨(St.new Go.Ev.start 0 (.cells 18 [] (an (ak.cells c) .leaf 0) true false)).heap,1⟩))∧(kR.f0=2→(∃Um:ak,[ak.enc kR]=[ak.enc Um]∧Q (ae V.str 1 (([Um.f1]))) ⟨(St.new Go.Ev.start 0 (.cells 18 [] (an (ak.cells c) .leaf 0) true false)).heap,1⟩))∧(kR.f0=3→(∃Un:ak,[ak.enc kR]=[ak.enc Un]∧Q (ae V.str 1 (([Un.f1]))) ⟨(St.new Go.Ev.start 0 (.cells 18 [] (an (ak.cells c) .leaf 0) true false)).heap,1⟩))∧(kR.f0=4→(∃Uo:ak,[ak.enc kR]=[ak.enc Uo]∧Q (ae V.str 1 (([Uo.f1]))) ⟨(St.new Go.Ev.start 0 (.cells 18 [] (an (ak.cells c) .leaf 0) true false)).heap,1⟩))∧(kR.f0=5→(∃Up:ak,[ak.enc kR]=[ak.enc Up]∧Q (ae V.str 1 (([Up.f1]))) ⟨(St.new Go.Ev.start 0 (.cells 18 [] (an (ak.cells c) .leaf 0) true false)).heap,1⟩))∧(kR.f0=6→(∃NI:ak,[ak.enc kR]=[ak.enc NI]∧Q (ae V.str 1 (([NI.f1,NI.f2]))) ⟨(St.new Go.Ev.start 0 (.cells 18 [] (an (ak.cells c) .leaf 0) true false)).heap,1⟩))∧((kR.f0<1∨6<kR.f0)→Q (.ai) ⟨(St.new Go.Ev.start 0 (.cells 18 [] (an (ak.cells c) .leaf 0) true false)).heap,1⟩))):=by kernel_rfl
def Zm [Env] (vs:List V) (σ:St) (k:ah):Prop:=
 ∃c:ak,vs=[ak.enc c]∧k (ae V.str 1 (aK c)) σ
def IL [Env]:=kS 34 Zm IK
end Go.Proofs.YtbajncpfmemdgaaGreatDoor
end
section
namespace Go.Proofs.YtbajncpfmemdgaaGreatDoor
open Go Go.Ev Go.IntWalk
theorem F122:bU Tryz.prog 122 Tryz.f122:=.of (by kernel_rfl) (by kernel_rfl)
theorem F73:bU Tryz.prog 73 Tryz.f73:=.of (by kernel_rfl) (by kernel_rfl)
theorem F250:bU Tryz.prog 250 Tryz.f250:=.of (by kernel_rfl) (by kernel_rfl)
theorem F226:bU Tryz.prog 226 Tryz.f226:=.of (by kernel_rfl) (by kernel_rfl)
theorem F74:bU Tryz.prog 74 Tryz.f74:=.of (by kernel_rfl) (by kernel_rfl)
theorem F307:bU Tryz.prog 307 Tryz.f307:=.of (by kernel_rfl) (by kernel_rfl)
theorem F304:bU Tryz.prog 304 Tryz.f304:=.of (by kernel_rfl) (by kernel_rfl)
theorem F312:bU Tryz.prog 312 Tryz.f312:=.of (by kernel_rfl) (by kernel_rfl)
theorem F154:bU Tryz.prog 154 Tryz.f154:=.of (by kernel_rfl) (by kernel_rfl)
theorem F301:bU Tryz.prog 301 Tryz.f301:=.of (by kernel_rfl) (by kernel_rfl)
theorem F299:bU Tryz.prog 299 Tryz.f299:=.of (by kernel_rfl) (by kernel_rfl)
theorem F302:bU Tryz.prog 302 Tryz.f302:=.of (by kernel_rfl) (by kernel_rfl)
theorem F305:bU Tryz.prog 305 Tryz.f305:=.of (by kernel_rfl) (by kernel_rfl)
theorem F308:bU Tryz.prog 308 Tryz.f308:=.of (by kernel_rfl) (by kernel_rfl)
theorem F310:bU Tryz.prog 310 Tryz.f310:=.of (by kernel_rfl) (by kernel_rfl)
theorem F313:bU Tryz.prog 313 Tryz.f313:=.of (by kernel_rfl) (by kernel_rfl)
theorem F71:bU Tryz.prog 71 Tryz.f71:=.of (by kernel_rfl) (by kernel_rfl)
theorem F72:bU Tryz.prog 72 Tryz.f72:=.of (by kernel_rfl) (by kernel_rfl)
theorem F34:bU Tryz.prog 34 Tryz.f34:=.of (by kernel_rfl) (by kernel_rfl)
section
variable [Env] [aC] {vs:List V} {σ:St} {k:ah}
theorem Uq (h:Ze vs σ k):ag Tryz.prog 27 vs k σ:=by
 obtain⟨l,rfl⟩:=h.1
 have hc:Go.Ev.Clean (ae aa.enc 3 l):=bK l
 refine ua (tZ hc) ?_ h
 by_cases hl:l.length≤20
 ·refine F27.cx (live:=rf) (call:=ud) (n₀:=0) (fun h=>rh h) rfl 1 (by kernel_rfl) Nat.lt_wfRel.wf (fun _ ss=>30-cu ss) (KJ aa.enc 3 l) (pM hc) ?_ ?_
  ·rw[Ko]
   exact⟨rfl,af.mk (fun e=>absurd (of_decide_eq_true e) (by omega)) fun _=>⟨0,by omega,by omega,rfl⟩⟩
  ·intro k hk ss hI
   obtain rfl:k=0:=by omega
   obtain⟨i,h0,h1,rfl⟩:=hI
   rw[Zd]
   refine⟨rfl,af.mk (fun e=>?_) fun _=>z1⟩
   have e:=of_decide_eq_true e
   refine⟨⟨h0,e⟩,⟨_,rfl⟩,⟨rfl,z0⟩,rfl,⟨i+1,by omega,by omega,by rw[i64_in _ (by omega)]⟩,?_⟩
   rw[i64_in _ (by omega),iD,iD]
   show 30-(i+1).toNat<30-i.toNat
   omega
 ·refine F27.cx (live:=rf) (call:=ud) (n₀:=0) (fun h=>rh h) rfl 1 (by kernel_rfl) Nat.lt_wfRel.wf (fun _ _=>0) (fun _ _=>False) (fun _ _ h=>h.elim) ?_ fun _ _ _ h=>h.elim
  rw[Ko]
  exact⟨rfl,af.mk (fun _=>z0) fun e=>absurd (of_decide_eq_false e) (by omega)⟩
theorem Gk:∀ {f:FuncId} {vs:List V} {σ:St} {k:ah},C8 f vs σ k→ag Tryz.prog f vs k σ:=fun h=>aP Uq rh h
def abm (s:List UInt8) (n:Nat) (q:Nat→List UInt8):Nat→List SV→Prop
 | 0,ss=>∃i:Nat,i≤n∧(∀j,j<i→q j≠s)∧ss=[.val (V.arr n (fun i=>V.str (q i)) 1 false false),.val (.str s),.val (.int .i64 ((n:Nat):Int)),.val (.int .i64 i)]
 | _,_=>False
theorem QH (h:M9 vs σ k):ag Tryz.prog 122 vs k σ:=by
 unfold M9 at h
 split at h
 ·rename_i n f s
  obtain⟨q,rfl,hn,h⟩:=h
  refine ag.eG (aA (mD n q) (aA (Go.Ev.Clean.str _) bm)) (.int _ _) ?_ h
  refine F122.cx (live:=zP) (call:=C8) (n₀:=0) (σ:=Go.Ev.start) (fun h=>Gk h) rfl 1 (by kernel_rfl) Nat.lt_wfRel.wf (fun _ ss=>n-cu ss) (abm s n q) ?_ ?_ ?_
  ·intro k ss hI
   cases k with
   | zero=>obtain⟨i,_,_,rfl⟩:=hI;exact qZ (nw (aE (aE bM)))
   | succ k=>exact hI.elim
  ·rw[aa5]
   exact⟨0,by omega,fun j hj=>absurd hj (Nat.not_lt_zero j),rfl⟩
  ·intro k hk ss hI
   obtain rfl:k=0:=by omega
   obtain⟨i,hi,hj,rfl⟩:=hI
   rw[aa6]
   refine⟨rfl,av (fun h1=>⟨⟨by omega,by omega⟩,av (fun h2=>?_) fun h2=>?_⟩) fun h1=>?_⟩
   ·rw[dU] at h2
    rw[lW s q n i (by omega) h2.symm hj]
   ·rw[dU] at h2
    rw[i64_in ((i:Int)+1) (by omega)]
    refine⟨⟨i+1,by omega,fun j iY=>?_,rfl⟩,?_⟩
    ·by_cases e:j=i
     ·rw[e];exact fun h=>h2 h.symm
     ·exact hj j (by omega)
    ·show n-((i:Int)+1).toNat<n-(i:Int).toNat
     omega
   ·obtain rfl:i=n:=by omega
    rw[iT s q i hj]
 ·exact h.elim
theorem Gl:∀ {f:FuncId} {vs:List V} {σ:St} {k:ah},Iy f vs σ k→ag Tryz.prog f vs k σ:=fun h=>aP QH Gk h
theorem Ur (h:T6 vs σ k):ag Tryz.prog 73 vs k σ:=by
 unfold T6 at h
 split at h
 ·rename_i n f s
  obtain⟨q,rfl,hn,h⟩:=h
  refine ag.eG (aA (mD n q) (aA (Go.Ev.Clean.str _) bm)) (.bool _) (F73.flat (live:=K3) (call:=Iy) (n₀:=0) (σ:=Go.Ev.start) (fun h=>Gl h) rfl (by kernel_rfl) ?_) h
  rw[e73]
  exact⟨q,rfl,hn,rfl,av (fun h=>by rw[decide_eq_true h]) fun h=>by rw[decide_eq_false h]⟩
 ·exact h.elim
theorem Gm:∀ {f:FuncId} {vs:List V} {σ:St} {k:ah},Iz f vs σ k→ag Tryz.prog f vs k σ:=fun h=>aP Ur Gl h
theorem QI (h:Na vs σ k):ag Tryz.prog 250 vs k σ:=by
 unfold Na at h
 split at h
 ·rename_i n f s
  obtain⟨q,rfl,hn,h⟩:=h
  refine ag.eG (aA (mD n q) (aA (Go.Ev.Clean.str _) bm)) (.int _ _) (F250.flat (live:=Ga) (call:=Iz) (n₀:=0) (σ:=Go.Ev.start) (fun h=>Gm h) rfl (by kernel_rfl) ?_) h
  rw[aa7]
  exact⟨q,rfl,hn,rfl⟩
 ·exact h.elim
theorem Gn:∀ {f:FuncId} {vs:List V} {σ:St} {k:ah},IA f vs σ k→ag Tryz.prog f vs k σ:=fun h=>aP QI Gm h
theorem Gp (h:Ua vs σ k):ag Tryz.prog 226 vs k σ:=by
 obtain⟨t,s,rfl,hn,h⟩:=h
 refine ag.eG (aA t.aG (aA (Go.Ev.Clean.str _) bm)) (.int _ _) (F226.flat (live:=Gb) (call:=IA) (n₀:=0) (σ:=Go.Ev.start) (fun h=>Gn h) rfl (by kernel_rfl) ?_) h
 rw[aa8]
 exact⟨_,rfl,hn,_,rfl,by omega,rfl⟩
theorem zS:∀ {f:FuncId} {vs:List V} {σ:St} {k:ah},Db f vs σ k→ag Tryz.prog f vs k σ:=fun h=>aP Gp Gn h
omit [aC] in
theorem jh {τ:St} {cs:List V} (h:∀v∈cs,Go.Ev.Clean v):bn τ cs cs:=bn.clean h
omit [aC] in
theorem bl.row {σ:St} {k:ah} {v:V} {τ:St} {b n esz:Nat} {g:Nat→V} (h:mG τ b n g esz v) (hk:k (.own σ.next n esz) (σ.new σ.next (.row n g esz false))):bl σ k v τ:=.inr (.inl ⟨_,_,_,_,h,hk⟩)
omit [aC] in
theorem bl.pair {σ:St} {k:ah} {w e e':V} {τ:St} {b n esz:Nat} {g:Nat→V} (h:mG τ b n g esz w) (he:dQ (τ.kill b) e e') (hk:k (.tuple [.own σ.next n esz,e']) (σ.new σ.next (.row n g esz false))):bl σ k (.tuple [w,e]) τ:=.inr (.inr ⟨_,_,_,_,_,_,_,rfl,h,he,hk⟩)
omit [aC] in
theorem bl.ij {σ:St} {k:ah} {v u:V} {τ:St} (h:dQ τ v u) (hk:k u σ):bl σ k v τ:=.inl ⟨_,h,hk⟩
omit [aC] in
theorem K6 {n:Nat} {f:Nat→V} {esz:Nat} {ex:Bool} {x:Value} {ρ:Go.Ev.Ren} (hn:0<n) (h:aq ρ (.arr n f esz ex false) x):aq ρ (.arr n f esz ex true) x:=by
 cases h with
 | arr _ h=>
  refine .arr (fun _=>?_) h
  have hl:=aS n f
  generalize b9 n f=es at h hl
  cases h with
  | bk hu hx hi hc he=>exact⟨_,_,_,rfl⟩
  | dO=>simp at hl;omega
  | dh he=>simp at hl;omega
theorem Us (h:Zk vs σ k):ag Tryz.prog 74 vs k σ:=by
 obtain⟨l,rfl,hn,h⟩:=h
 refine ag.aJ (us:=[ae aj.enc 7 l]) (aA (fg l) bm) (bI.imp (us:=[HQ aj.enc 7 l]) (fun ρ xs hx=>?_) (F74.ck (live:=Dc) (call:=Db) (fun h=>zS h) (by kernel_rfl) ?_))
 ·cases hx with
  | cons h1 h2=>exact .cons (K6 hn.1 h1) h2
 ·rw[Zj]
  refine av (fun h1=>by omega) fun h1=>⟨by omega,bl.row (.own (f:=fun i=>aj.enc (l.getD i default)) (g:=fun i=>aj.enc (l.getD i default)) (p:=true) (by rfl) fun i hi=>jh (aj.clean _)) h⟩
theorem cw:∀ {f:FuncId} {vs:List V} {σ:St} {k:ah},cc f vs σ k→ag Tryz.prog f vs k σ:=fun h=>aP Us zS h
omit [Env] [aC] in
theorem bE.one (x:aj):bE 1 (fun _=>.agg (aj.cells x)) [x]:=⟨rfl,fun i hi=>by
 obtain rfl:=Nat.lt_one_iff.1 hi
 rfl⟩
omit [Env] [aC] in
theorem bE.push {n:Nat} {f:Nat→V} {l:List aj} (h:bE n f l) (x:aj):bE (n+1) (dY n f fun _=>.agg (aj.cells x)) (l++[x]):=by
 obtain⟨rfl,h2⟩:=h
 refine⟨by simp,fun i hi=>?_⟩
 by_cases e:i=l.length
 ·subst e;rw[Fb];simp [List.getD_eq_getElem?_getD];rfl
 ·rw[Fa _ _ (by omega),h2 i (by omega)]
  simp [List.getD_eq_getElem?_getD,List.getElem?_append_left (show i<l.length by omega)]
omit [aC] in
theorem bE.cl {n:Nat} {f:Nat→V} {l:List aj} (h:bE n f l):∀i,i<n→∀u∈(f i).cells,Go.Ev.Clean u:=fun i hi u hu=>by
 rw[h.2 i hi] at hu;exact aj.clean _ u hu
omit [Env] [aC] in
theorem bE.len {n:Nat} {f:Nat→V} {l:List aj} (h:bE n f l) {i:Nat} (hi:i<n):(f i).cells.length=7:=by rw[h.2 i hi];rfl
omit [Env] [aC] in
theorem kU {α:Type} (p:Nat→Bool) (q:Nat→α):∀n,(bj p q n).length≤n
 | 0=>Nat.le_refl _
 | n+1=>by
  show(if p n=true then bj p q n++[q n] else bj p q n).length≤n+1
  have:=kU p q n
  split
  ·simp;omega
  ·omega
omit [Env] [aC] in
theorem vE {α:Type} {p:Nat→Bool} {q:Nat→α} {n:Nat} (h:p n=true):bj p q (n+1)=bj p q n++[q n]:=if_pos h
omit [Env] [aC] in
theorem xk {α:Type} {p:Nat→Bool} {q:Nat→α} {n:Nat} (h:¬p n=true):bj p q (n+1)=bj p q n:=if_neg h
end
end Go.Proofs.YtbajncpfmemdgaaGreatDoor
end
section
namespace Go.Proofs.YtbajncpfmemdgaaGreatDoor
open Go Go.Ev Go.IntWalk
section
variable [Env]
theorem pK.sub {esz b n m N:Nat} {g:Nat→V} {z:List V} {t:Trie V} {p:Bool} {τ:St} (hb:τ.heap.get b=some (.cells N z t p false)) (hn:n≠0) (hm:n≤m) (hN:n*esz≤N) (hu:∀i,i<n→(g i).cells.length=esz)
  (hc:∀i,i<n→∀k v,(g i).cells[k]? =some v→cellOf N z t (i*esz+k)=some v∧Go.Ev.Clean v):pK esz (.slice b 0 n m false esz) τ n g:=
 ⟨b,_,hb,fun _ _ hm'=>⟨.O0 hm' hn hm,.EK hN (fun h=>by cases h) hu fun i hi k v hv=>⟨v,(hc i hi k v hv).1,.clean (hc i hi k v hv).2⟩⟩⟩
omit [Env] in
theorem xl:∀l:List aj,aN l=ar (l.map aj.enc)
 | []=>rfl
 | x::l=>by rw[List.map_cons,bS,←xl l];rfl
omit [Env] in
theorem NJ (l:List aj):∀v∈l.map aj.enc,v.cells.length=7:=fun v hv=>by
 obtain⟨x,_,rfl⟩:=List.mem_map.1 hv;rfl
omit [Env] in
theorem K7 {l:List aj} {i:Nat} (hi:i<l.length) {k:Nat} (hk:k<7):(aN l)[i*7+k]? =(aj.cells (l.getD i default))[k]? :=by
 rw[xl,fT (NJ l) (i:=i) (u:=aj.enc (l.getD i default)) (by rw[List.getElem?_map,List.getD_eq_getElem?_getD,List.getElem?_eq_getElem hi];rfl) hk];rfl
omit [Env] in
theorem yL {N:Nat} {es:List V} {i:Nat} {v:V} (hi:es[i]? =some v) (hN:i<N):cellOf N [] (an es .leaf 0) i=some v:=by
 have bB:=(List.getElem?_eq_some_iff.1 hi).1
 unfold cellOf
 rw[show Nat.blt i N=true by rw[Nat.blt_eq];exact hN]
 dsimp only
 rw[jQ,if_pos ⟨Nat.zero_le _,by omega⟩,Nat.sub_zero,hi]
theorem cA (os:List aj) (ho:os≠[]) {nx:Nat}:eH 7 (fun m f=>bE m f os) (.slice 0 0 os.length (os.length+1) false 7) ⟨(aT (.cells ((os.length+1)*7) [] (an (aN (os++[dJ])) .leaf 0) false false)).heap,nx⟩:=by
 refine⟨os.length,fun j=>aj.enc (os.getD j default),pK.sub (b:=0) (p:=false) (by rfl) (fun e=>ho (List.eq_nil_of_length_eq_zero e)) (by omega) (Nat.mul_le_mul_right 7 (by omega)) (fun i hi=>rfl) (fun i hi k v hv=>⟨yL ?_ ?_,aj.clean _ v (List.mem_of_getElem? hv)⟩),rfl,fun i hi=>rfl⟩
 ·have hk:k<7:=(List.getElem?_eq_some_iff.1 hv).1
  rw[K7 (by simp;omega) hk]
  have:(os++[dJ]).getD i default=os.getD i default:=by simp [List.getD_eq_getElem?_getD,List.getElem?_append_left hi]
  rw[this];exact hv
 ·have hk:k<7:=(List.getElem?_eq_some_iff.1 hv).1
  have:=kH hi (Nat.succ_le_of_lt hk)
  omega
variable [aC] {vs:List V} {σ:St} {k:ah}
theorem Ut (x0 x1:aj):bI Tryz.prog 307 [.slice 0 0 2 2 false 7,.int .i64 1,.int .i64 2] (eH 7 fun m f=>bE m f (bj (fun j=>decide (j≠1)) (fun j=>[x0,x1].getD j default) 2)) (aT (.cells 14 [] (an (aN [x0,x1]) .leaf 0) false false)):=by
 rw[show bj (fun j=>decide (j≠1)) (fun j=>[x0,x1].getD j default) 2=[x0] by kernel_rfl]
 exact F307.ck (live:=fun _=>[]) (call:=cc) (fun h=>cw h) (by kernel_rfl) (by rw[Nb];exact⟨rfl,cA [x0] (List.cons_ne_nil _ _)⟩)
theorem Uu (x0 x1 x2:aj):bI Tryz.prog 307 [.slice 0 0 3 3 false 7,.int .i64 1,.int .i64 2] (eH 7 fun m f=>bE m f (bj (fun j=>decide (j≠1)) (fun j=>[x0,x1,x2].getD j default) 3)) (aT (.cells 21 [] (an (aN [x0,x1,x2]) .leaf 0) false false)):=by
 rw[show bj (fun j=>decide (j≠1)) (fun j=>[x0,x1,x2].getD j default) 3=[x0,x2] by kernel_rfl]
 exact F307.ck (live:=fun _=>[]) (call:=cc) (fun h=>cw h) (by kernel_rfl) (by rw[Nc];exact⟨rfl,cA [x0,x2] (List.cons_ne_nil _ _)⟩)
theorem Uv (x0 x1 x2:aj):bI Tryz.prog 307 [.slice 0 0 3 3 false 7,.int .i64 2,.int .i64 3] (eH 7 fun m f=>bE m f (bj (fun j=>decide (j≠2)) (fun j=>[x0,x1,x2].getD j default) 3)) (aT (.cells 21 [] (an (aN [x0,x1,x2]) .leaf 0) false false)):=by
 rw[show bj (fun j=>decide (j≠2)) (fun j=>[x0,x1,x2].getD j default) 3=[x0,x1] by kernel_rfl]
 exact F307.ck (live:=fun _=>[]) (call:=cc) (fun h=>cw h) (by kernel_rfl) (by rw[Nd];exact⟨rfl,cA [x0,x1] (List.cons_ne_nil _ _)⟩)
theorem Uw (x0 x1 x2 x3:aj):bI Tryz.prog 307 [.slice 0 0 4 4 false 7,.int .i64 1,.int .i64 2] (eH 7 fun m f=>bE m f (bj (fun j=>decide (j≠1)) (fun j=>[x0,x1,x2,x3].getD j default) 4)) (aT (.cells 28 [] (an (aN [x0,x1,x2,x3]) .leaf 0) false false)):=by
 rw[show bj (fun j=>decide (j≠1)) (fun j=>[x0,x1,x2,x3].getD j default) 4=[x0,x2,x3] by kernel_rfl]
 exact F307.ck (live:=fun _=>[]) (call:=cc) (fun h=>cw h) (by kernel_rfl) (by rw[Nf];exact⟨rfl,cA [x0,x2,x3] (List.cons_ne_nil _ _)⟩)
theorem Ux (x0 x1 x2 x3:aj):bI Tryz.prog 307 [.slice 0 0 4 4 false 7,.int .i64 2,.int .i64 3] (eH 7 fun m f=>bE m f (bj (fun j=>decide (j≠2)) (fun j=>[x0,x1,x2,x3].getD j default) 4)) (aT (.cells 28 [] (an (aN [x0,x1,x2,x3]) .leaf 0) false false)):=by
 rw[show bj (fun j=>decide (j≠2)) (fun j=>[x0,x1,x2,x3].getD j default) 4=[x0,x1,x3] by kernel_rfl]
 exact F307.ck (live:=fun _=>[]) (call:=cc) (fun h=>cw h) (by kernel_rfl) (by rw[Ng];exact⟨rfl,cA [x0,x1,x3] (List.cons_ne_nil _ _)⟩)
theorem Uy (x0 x1 x2 x3:aj):bI Tryz.prog 307 [.slice 0 0 4 4 false 7,.int .i64 3,.int .i64 4] (eH 7 fun m f=>bE m f (bj (fun j=>decide (j≠3)) (fun j=>[x0,x1,x2,x3].getD j default) 4)) (aT (.cells 28 [] (an (aN [x0,x1,x2,x3]) .leaf 0) false false)):=by
 rw[show bj (fun j=>decide (j≠3)) (fun j=>[x0,x1,x2,x3].getD j default) 4=[x0,x1,x2] by kernel_rfl]
 exact F307.ck (live:=fun _=>[]) (call:=cc) (fun h=>cw h) (by kernel_rfl) (by rw[Nh];exact⟨rfl,cA [x0,x1,x2] (List.cons_ne_nil _ _)⟩)
theorem Uz (x0 x1 x2 x3 x4:aj):bI Tryz.prog 307 [.slice 0 0 5 5 false 7,.int .i64 1,.int .i64 2] (eH 7 fun m f=>bE m f (bj (fun j=>decide (j≠1)) (fun j=>[x0,x1,x2,x3,x4].getD j default) 5)) (aT (.cells 35 [] (an (aN [x0,x1,x2,x3,x4]) .leaf 0) false false)):=by
 rw[show bj (fun j=>decide (j≠1)) (fun j=>[x0,x1,x2,x3,x4].getD j default) 5=[x0,x2,x3,x4] by kernel_rfl]
 exact F307.ck (live:=fun _=>[]) (call:=cc) (fun h=>cw h) (by kernel_rfl) (by rw[Ni];exact⟨rfl,cA [x0,x2,x3,x4] (List.cons_ne_nil _ _)⟩)
theorem UA (x0 x1 x2 x3 x4:aj):bI Tryz.prog 307 [.slice 0 0 5 5 false 7,.int .i64 2,.int .i64 3] (eH 7 fun m f=>bE m f (bj (fun j=>decide (j≠2)) (fun j=>[x0,x1,x2,x3,x4].getD j default) 5)) (aT (.cells 35 [] (an (aN [x0,x1,x2,x3,x4]) .leaf 0) false false)):=by
 rw[show bj (fun j=>decide (j≠2)) (fun j=>[x0,x1,x2,x3,x4].getD j default) 5=[x0,x1,x3,x4] by kernel_rfl]
 exact F307.ck (live:=fun _=>[]) (call:=cc) (fun h=>cw h) (by kernel_rfl) (by rw[Nj];exact⟨rfl,cA [x0,x1,x3,x4] (List.cons_ne_nil _ _)⟩)
theorem UB (x0 x1 x2 x3 x4:aj):bI Tryz.prog 307 [.slice 0 0 5 5 false 7,.int .i64 3,.int .i64 4] (eH 7 fun m f=>bE m f (bj (fun j=>decide (j≠3)) (fun j=>[x0,x1,x2,x3,x4].getD j default) 5)) (aT (.cells 35 [] (an (aN [x0,x1,x2,x3,x4]) .leaf 0) false false)):=by
 rw[show bj (fun j=>decide (j≠3)) (fun j=>[x0,x1,x2,x3,x4].getD j default) 5=[x0,x1,x2,x4] by kernel_rfl]
 exact F307.ck (live:=fun _=>[]) (call:=cc) (fun h=>cw h) (by kernel_rfl) (by rw[Nk];exact⟨rfl,cA [x0,x1,x2,x4] (List.cons_ne_nil _ _)⟩)
theorem UC (x0 x1 x2 x3 x4:aj):bI Tryz.prog 307 [.slice 0 0 5 5 false 7,.int .i64 4,.int .i64 5] (eH 7 fun m f=>bE m f (bj (fun j=>decide (j≠4)) (fun j=>[x0,x1,x2,x3,x4].getD j default) 5)) (aT (.cells 35 [] (an (aN [x0,x1,x2,x3,x4]) .leaf 0) false false)):=by
 rw[show bj (fun j=>decide (j≠4)) (fun j=>[x0,x1,x2,x3,x4].getD j default) 5=[x0,x1,x2,x3] by kernel_rfl]
 exact F307.ck (live:=fun _=>[]) (call:=cc) (fun h=>cw h) (by kernel_rfl) (by rw[Nl];exact⟨rfl,cA [x0,x1,x2,x3] (List.cons_ne_nil _ _)⟩)
theorem UD (x0 x1 x2 x3 x4 x5:aj):bI Tryz.prog 307 [.slice 0 0 6 6 false 7,.int .i64 1,.int .i64 2] (eH 7 fun m f=>bE m f (bj (fun j=>decide (j≠1)) (fun j=>[x0,x1,x2,x3,x4,x5].getD j default) 6)) (aT (.cells 42 [] (an (aN [x0,x1,x2,x3,x4,x5]) .leaf 0) false false)):=by
 rw[show bj (fun j=>decide (j≠1)) (fun j=>[x0,x1,x2,x3,x4,x5].getD j default) 6=[x0,x2,x3,x4,x5] by kernel_rfl]
 exact F307.ck (live:=fun _=>[]) (call:=cc) (fun h=>cw h) (by kernel_rfl) (by rw[Nn];exact⟨rfl,cA [x0,x2,x3,x4,x5] (List.cons_ne_nil _ _)⟩)
theorem UE (x0 x1 x2 x3 x4 x5:aj):bI Tryz.prog 307 [.slice 0 0 6 6 false 7,.int .i64 2,.int .i64 3] (eH 7 fun m f=>bE m f (bj (fun j=>decide (j≠2)) (fun j=>[x0,x1,x2,x3,x4,x5].getD j default) 6)) (aT (.cells 42 [] (an (aN [x0,x1,x2,x3,x4,x5]) .leaf 0) false false)):=by
 rw[show bj (fun j=>decide (j≠2)) (fun j=>[x0,x1,x2,x3,x4,x5].getD j default) 6=[x0,x1,x3,x4,x5] by kernel_rfl]
 exact F307.ck (live:=fun _=>[]) (call:=cc) (fun h=>cw h) (by kernel_rfl) (by rw[Np];exact⟨rfl,cA [x0,x1,x3,x4,x5] (List.cons_ne_nil _ _)⟩)
theorem UF (x0 x1 x2 x3 x4 x5:aj):bI Tryz.prog 307 [.slice 0 0 6 6 false 7,.int .i64 3,.int .i64 4] (eH 7 fun m f=>bE m f (bj (fun j=>decide (j≠3)) (fun j=>[x0,x1,x2,x3,x4,x5].getD j default) 6)) (aT (.cells 42 [] (an (aN [x0,x1,x2,x3,x4,x5]) .leaf 0) false false)):=by
 rw[show bj (fun j=>decide (j≠3)) (fun j=>[x0,x1,x2,x3,x4,x5].getD j default) 6=[x0,x1,x2,x4,x5] by kernel_rfl]
 exact F307.ck (live:=fun _=>[]) (call:=cc) (fun h=>cw h) (by kernel_rfl) (by rw[Nq];exact⟨rfl,cA [x0,x1,x2,x4,x5] (List.cons_ne_nil _ _)⟩)
theorem UG (x0 x1 x2 x3 x4 x5:aj):bI Tryz.prog 307 [.slice 0 0 6 6 false 7,.int .i64 4,.int .i64 5] (eH 7 fun m f=>bE m f (bj (fun j=>decide (j≠4)) (fun j=>[x0,x1,x2,x3,x4,x5].getD j default) 6)) (aT (.cells 42 [] (an (aN [x0,x1,x2,x3,x4,x5]) .leaf 0) false false)):=by
 rw[show bj (fun j=>decide (j≠4)) (fun j=>[x0,x1,x2,x3,x4,x5].getD j default) 6=[x0,x1,x2,x3,x5] by kernel_rfl]
 exact F307.ck (live:=fun _=>[]) (call:=cc) (fun h=>cw h) (by kernel_rfl) (by rw[Nr];exact⟨rfl,cA [x0,x1,x2,x3,x5] (List.cons_ne_nil _ _)⟩)
theorem UH (x0 x1 x2 x3 x4 x5:aj):bI Tryz.prog 307 [.slice 0 0 6 6 false 7,.int .i64 5,.int .i64 6] (eH 7 fun m f=>bE m f (bj (fun j=>decide (j≠5)) (fun j=>[x0,x1,x2,x3,x4,x5].getD j default) 6)) (aT (.cells 42 [] (an (aN [x0,x1,x2,x3,x4,x5]) .leaf 0) false false)):=by
 rw[show bj (fun j=>decide (j≠5)) (fun j=>[x0,x1,x2,x3,x4,x5].getD j default) 6=[x0,x1,x2,x3,x4] by kernel_rfl]
 exact F307.ck (live:=fun _=>[]) (call:=cc) (fun h=>cw h) (by kernel_rfl) (by rw[Ns];exact⟨rfl,cA [x0,x1,x2,x3,x4] (List.cons_ne_nil _ _)⟩)
theorem UI (x0 x1 x2 x3 x4 x5 x6:aj):bI Tryz.prog 307 [.slice 0 0 7 7 false 7,.int .i64 1,.int .i64 2] (eH 7 fun m f=>bE m f (bj (fun j=>decide (j≠1)) (fun j=>[x0,x1,x2,x3,x4,x5,x6].getD j default) 7)) (aT (.cells 49 [] (an (aN [x0,x1,x2,x3,x4,x5,x6]) .leaf 0) false false)):=by
 rw[show bj (fun j=>decide (j≠1)) (fun j=>[x0,x1,x2,x3,x4,x5,x6].getD j default) 7=[x0,x2,x3,x4,x5,x6] by kernel_rfl]
 exact F307.ck (live:=fun _=>[]) (call:=cc) (fun h=>cw h) (by kernel_rfl) (by rw[Nt];exact⟨rfl,cA [x0,x2,x3,x4,x5,x6] (List.cons_ne_nil _ _)⟩)
theorem UJ (x0 x1 x2 x3 x4 x5 x6:aj):bI Tryz.prog 307 [.slice 0 0 7 7 false 7,.int .i64 2,.int .i64 3] (eH 7 fun m f=>bE m f (bj (fun j=>decide (j≠2)) (fun j=>[x0,x1,x2,x3,x4,x5,x6].getD j default) 7)) (aT (.cells 49 [] (an (aN [x0,x1,x2,x3,x4,x5,x6]) .leaf 0) false false)):=by
 rw[show bj (fun j=>decide (j≠2)) (fun j=>[x0,x1,x2,x3,x4,x5,x6].getD j default) 7=[x0,x1,x3,x4,x5,x6] by kernel_rfl]
 exact F307.ck (live:=fun _=>[]) (call:=cc) (fun h=>cw h) (by kernel_rfl) (by rw[Nu];exact⟨rfl,cA [x0,x1,x3,x4,x5,x6] (List.cons_ne_nil _ _)⟩)
theorem UK (x0 x1 x2 x3 x4 x5 x6:aj):bI Tryz.prog 307 [.slice 0 0 7 7 false 7,.int .i64 3,.int .i64 4] (eH 7 fun m f=>bE m f (bj (fun j=>decide (j≠3)) (fun j=>[x0,x1,x2,x3,x4,x5,x6].getD j default) 7)) (aT (.cells 49 [] (an (aN [x0,x1,x2,x3,x4,x5,x6]) .leaf 0) false false)):=by
 rw[show bj (fun j=>decide (j≠3)) (fun j=>[x0,x1,x2,x3,x4,x5,x6].getD j default) 7=[x0,x1,x2,x4,x5,x6] by kernel_rfl]
 exact F307.ck (live:=fun _=>[]) (call:=cc) (fun h=>cw h) (by kernel_rfl) (by rw[Nv];exact⟨rfl,cA [x0,x1,x2,x4,x5,x6] (List.cons_ne_nil _ _)⟩)
theorem UL (x0 x1 x2 x3 x4 x5 x6:aj):bI Tryz.prog 307 [.slice 0 0 7 7 false 7,.int .i64 4,.int .i64 5] (eH 7 fun m f=>bE m f (bj (fun j=>decide (j≠4)) (fun j=>[x0,x1,x2,x3,x4,x5,x6].getD j default) 7)) (aT (.cells 49 [] (an (aN [x0,x1,x2,x3,x4,x5,x6]) .leaf 0) false false)):=by
 rw[show bj (fun j=>decide (j≠4)) (fun j=>[x0,x1,x2,x3,x4,x5,x6].getD j default) 7=[x0,x1,x2,x3,x5,x6] by kernel_rfl]
 exact F307.ck (live:=fun _=>[]) (call:=cc) (fun h=>cw h) (by kernel_rfl) (by rw[Nw];exact⟨rfl,cA [x0,x1,x2,x3,x5,x6] (List.cons_ne_nil _ _)⟩)
theorem UM (x0 x1 x2 x3 x4 x5 x6:aj):bI Tryz.prog 307 [.slice 0 0 7 7 false 7,.int .i64 5,.int .i64 6] (eH 7 fun m f=>bE m f (bj (fun j=>decide (j≠5)) (fun j=>[x0,x1,x2,x3,x4,x5,x6].getD j default) 7)) (aT (.cells 49 [] (an (aN [x0,x1,x2,x3,x4,x5,x6]) .leaf 0) false false)):=by
 rw[show bj (fun j=>decide (j≠5)) (fun j=>[x0,x1,x2,x3,x4,x5,x6].getD j default) 7=[x0,x1,x2,x3,x4,x6] by kernel_rfl]
 exact F307.ck (live:=fun _=>[]) (call:=cc) (fun h=>cw h) (by kernel_rfl) (by rw[Nx];exact⟨rfl,cA [x0,x1,x2,x3,x4,x6] (List.cons_ne_nil _ _)⟩)
theorem UN (x0 x1 x2 x3 x4 x5 x6:aj):bI Tryz.prog 307 [.slice 0 0 7 7 false 7,.int .i64 6,.int .i64 7] (eH 7 fun m f=>bE m f (bj (fun j=>decide (j≠6)) (fun j=>[x0,x1,x2,x3,x4,x5,x6].getD j default) 7)) (aT (.cells 49 [] (an (aN [x0,x1,x2,x3,x4,x5,x6]) .leaf 0) false false)):=by
 rw[show bj (fun j=>decide (j≠6)) (fun j=>[x0,x1,x2,x3,x4,x5,x6].getD j default) 7=[x0,x1,x2,x3,x4,x5] by kernel_rfl]
 exact F307.ck (live:=fun _=>[]) (call:=cc) (fun h=>cw h) (by kernel_rfl) (by rw[Ny];exact⟨rfl,cA [x0,x1,x2,x3,x4,x5] (List.cons_ne_nil _ _)⟩)
theorem UO (x0 x1 x2 x3 x4 x5 x6 x7:aj):bI Tryz.prog 307 [.slice 0 0 8 8 false 7,.int .i64 1,.int .i64 2] (eH 7 fun m f=>bE m f (bj (fun j=>decide (j≠1)) (fun j=>[x0,x1,x2,x3,x4,x5,x6,x7].getD j default) 8)) (aT (.cells 56 [] (an (aN [x0,x1,x2,x3,x4,x5,x6,x7]) .leaf 0) false false)):=by
 rw[show bj (fun j=>decide (j≠1)) (fun j=>[x0,x1,x2,x3,x4,x5,x6,x7].getD j default) 8=[x0,x2,x3,x4,x5,x6,x7] by kernel_rfl]
 exact F307.ck (live:=fun _=>[]) (call:=cc) (fun h=>cw h) (by kernel_rfl) (by rw[Nz];exact⟨rfl,cA [x0,x2,x3,x4,x5,x6,x7] (List.cons_ne_nil _ _)⟩)
theorem UP (x0 x1 x2 x3 x4 x5 x6 x7:aj):bI Tryz.prog 307 [.slice 0 0 8 8 false 7,.int .i64 2,.int .i64 3] (eH 7 fun m f=>bE m f (bj (fun j=>decide (j≠2)) (fun j=>[x0,x1,x2,x3,x4,x5,x6,x7].getD j default) 8)) (aT (.cells 56 [] (an (aN [x0,x1,x2,x3,x4,x5,x6,x7]) .leaf 0) false false)):=by
 rw[show bj (fun j=>decide (j≠2)) (fun j=>[x0,x1,x2,x3,x4,x5,x6,x7].getD j default) 8=[x0,x1,x3,x4,x5,x6,x7] by kernel_rfl]
 exact F307.ck (live:=fun _=>[]) (call:=cc) (fun h=>cw h) (by kernel_rfl) (by rw[NA];exact⟨rfl,cA [x0,x1,x3,x4,x5,x6,x7] (List.cons_ne_nil _ _)⟩)
theorem UQ (x0 x1 x2 x3 x4 x5 x6 x7:aj):bI Tryz.prog 307 [.slice 0 0 8 8 false 7,.int .i64 3,.int .i64 4] (eH 7 fun m f=>bE m f (bj (fun j=>decide (j≠3)) (fun j=>[x0,x1,x2,x3,x4,x5,x6,x7].getD j default) 8)) (aT (.cells 56 [] (an (aN [x0,x1,x2,x3,x4,x5,x6,x7]) .leaf 0) false false)):=by
 rw[show bj (fun j=>decide (j≠3)) (fun j=>[x0,x1,x2,x3,x4,x5,x6,x7].getD j default) 8=[x0,x1,x2,x4,x5,x6,x7] by kernel_rfl]
 exact F307.ck (live:=fun _=>[]) (call:=cc) (fun h=>cw h) (by kernel_rfl) (by rw[NB];exact⟨rfl,cA [x0,x1,x2,x4,x5,x6,x7] (List.cons_ne_nil _ _)⟩)
theorem UR (x0 x1 x2 x3 x4 x5 x6 x7:aj):bI Tryz.prog 307 [.slice 0 0 8 8 false 7,.int .i64 4,.int .i64 5] (eH 7 fun m f=>bE m f (bj (fun j=>decide (j≠4)) (fun j=>[x0,x1,x2,x3,x4,x5,x6,x7].getD j default) 8)) (aT (.cells 56 [] (an (aN [x0,x1,x2,x3,x4,x5,x6,x7]) .leaf 0) false false)):=by
 rw[show bj (fun j=>decide (j≠4)) (fun j=>[x0,x1,x2,x3,x4,x5,x6,x7].getD j default) 8=[x0,x1,x2,x3,x5,x6,x7] by kernel_rfl]
 exact F307.ck (live:=fun _=>[]) (call:=cc) (fun h=>cw h) (by kernel_rfl) (by rw[NC];exact⟨rfl,cA [x0,x1,x2,x3,x5,x6,x7] (List.cons_ne_nil _ _)⟩)
theorem US (x0 x1 x2 x3 x4 x5 x6 x7:aj):bI Tryz.prog 307 [.slice 0 0 8 8 false 7,.int .i64 5,.int .i64 6] (eH 7 fun m f=>bE m f (bj (fun j=>decide (j≠5)) (fun j=>[x0,x1,x2,x3,x4,x5,x6,x7].getD j default) 8)) (aT (.cells 56 [] (an (aN [x0,x1,x2,x3,x4,x5,x6,x7]) .leaf 0) false false)):=by
 rw[show bj (fun j=>decide (j≠5)) (fun j=>[x0,x1,x2,x3,x4,x5,x6,x7].getD j default) 8=[x0,x1,x2,x3,x4,x6,x7] by kernel_rfl]
 exact F307.ck (live:=fun _=>[]) (call:=cc) (fun h=>cw h) (by kernel_rfl) (by rw[ND];exact⟨rfl,cA [x0,x1,x2,x3,x4,x6,x7] (List.cons_ne_nil _ _)⟩)
theorem UT (x0 x1 x2 x3 x4 x5 x6 x7:aj):bI Tryz.prog 307 [.slice 0 0 8 8 false 7,.int .i64 6,.int .i64 7] (eH 7 fun m f=>bE m f (bj (fun j=>decide (j≠6)) (fun j=>[x0,x1,x2,x3,x4,x5,x6,x7].getD j default) 8)) (aT (.cells 56 [] (an (aN [x0,x1,x2,x3,x4,x5,x6,x7]) .leaf 0) false false)):=by
 rw[show bj (fun j=>decide (j≠6)) (fun j=>[x0,x1,x2,x3,x4,x5,x6,x7].getD j default) 8=[x0,x1,x2,x3,x4,x5,x7] by kernel_rfl]
 exact F307.ck (live:=fun _=>[]) (call:=cc) (fun h=>cw h) (by kernel_rfl) (by rw[NF];exact⟨rfl,cA [x0,x1,x2,x3,x4,x5,x7] (List.cons_ne_nil _ _)⟩)
theorem UU (x0 x1 x2 x3 x4 x5 x6 x7:aj):bI Tryz.prog 307 [.slice 0 0 8 8 false 7,.int .i64 7,.int .i64 8] (eH 7 fun m f=>bE m f (bj (fun j=>decide (j≠7)) (fun j=>[x0,x1,x2,x3,x4,x5,x6,x7].getD j default) 8)) (aT (.cells 56 [] (an (aN [x0,x1,x2,x3,x4,x5,x6,x7]) .leaf 0) false false)):=by
 rw[show bj (fun j=>decide (j≠7)) (fun j=>[x0,x1,x2,x3,x4,x5,x6,x7].getD j default) 8=[x0,x1,x2,x3,x4,x5,x6] by kernel_rfl]
 exact F307.ck (live:=fun _=>[]) (call:=cc) (fun h=>cw h) (by kernel_rfl) (by rw[NG];exact⟨rfl,cA [x0,x1,x2,x3,x4,x5,x6] (List.cons_ne_nil _ _)⟩)
theorem NL:∀(l:List aj) (i:Nat),0<i→i<l.length→l.length≤8→bI Tryz.prog 307 [.slice 0 0 l.length l.length false 7,.int .i64 (i:Int),.int .i64 ((i:Int)+1)] (eH 7 fun m f=>bE m f (bj (fun j=>decide (j≠i)) (fun j=>l.getD j default) l.length)) (aT (.cells (l.length*7) [] (an (aN l) .leaf 0) false false))
 | [],_,_,h,_=>absurd h (Nat.not_lt_zero _)
 | [_],i,h0,h,_=>absurd (show i<1 from h) (by omega)
 | [x0,x1],i,h0,h,_=>by
  replace h:i<2:=h
  rcases(show i=1 by omega) with rfl
  ·exact Ut x0 x1
 | [x0,x1,x2],i,h0,h,_=>by
  replace h:i<3:=h
  rcases(show i=1∨i=2 by omega) with rfl | rfl
  ·exact Uu x0 x1 x2
  ·exact Uv x0 x1 x2
 | [x0,x1,x2,x3],i,h0,h,_=>by
  replace h:i<4:=h
  rcases(show i=1∨i=2∨i=3 by omega) with rfl | rfl | rfl
  ·exact Uw x0 x1 x2 x3
  ·exact Ux x0 x1 x2 x3
  ·exact Uy x0 x1 x2 x3
 | [x0,x1,x2,x3,x4],i,h0,h,_=>by
  replace h:i<5:=h
  rcases(show i=1∨i=2∨i=3∨i=4 by omega) with rfl | rfl | rfl | rfl
  ·exact Uz x0 x1 x2 x3 x4
  ·exact UA x0 x1 x2 x3 x4
  ·exact UB x0 x1 x2 x3 x4
  ·exact UC x0 x1 x2 x3 x4
 | [x0,x1,x2,x3,x4,x5],i,h0,h,_=>by
  replace h:i<6:=h
  rcases(show i=1∨i=2∨i=3∨i=4∨i=5 by omega) with rfl | rfl | rfl | rfl | rfl
  ·exact UD x0 x1 x2 x3 x4 x5
  ·exact UE x0 x1 x2 x3 x4 x5
  ·exact UF x0 x1 x2 x3 x4 x5
  ·exact UG x0 x1 x2 x3 x4 x5
  ·exact UH x0 x1 x2 x3 x4 x5
 | [x0,x1,x2,x3,x4,x5,x6],i,h0,h,_=>by
  replace h:i<7:=h
  rcases(show i=1∨i=2∨i=3∨i=4∨i=5∨i=6 by omega) with rfl | rfl | rfl | rfl | rfl | rfl
  ·exact UI x0 x1 x2 x3 x4 x5 x6
  ·exact UJ x0 x1 x2 x3 x4 x5 x6
  ·exact UK x0 x1 x2 x3 x4 x5 x6
  ·exact UL x0 x1 x2 x3 x4 x5 x6
  ·exact UM x0 x1 x2 x3 x4 x5 x6
  ·exact UN x0 x1 x2 x3 x4 x5 x6
 | [x0,x1,x2,x3,x4,x5,x6,x7],i,h0,h,_=>by
  replace h:i<8:=h
  rcases(show i=1∨i=2∨i=3∨i=4∨i=5∨i=6∨i=7 by omega) with rfl | rfl | rfl | rfl | rfl | rfl | rfl
  ·exact UO x0 x1 x2 x3 x4 x5 x6 x7
  ·exact UP x0 x1 x2 x3 x4 x5 x6 x7
  ·exact UQ x0 x1 x2 x3 x4 x5 x6 x7
  ·exact UR x0 x1 x2 x3 x4 x5 x6 x7
  ·exact US x0 x1 x2 x3 x4 x5 x6 x7
  ·exact UT x0 x1 x2 x3 x4 x5 x6 x7
  ·exact UU x0 x1 x2 x3 x4 x5 x6 x7
 | _::_::_::_::_::_::_::_::_::r,_,_,_,h=>absurd (show r.length+9≤8 from h) (by omega)
theorem QJ (h:NH vs σ k):ag Tryz.prog 307 vs k σ:=by
 unfold NH at h
 split at h
 ·rename_i b n x y
  obtain⟨l,i,⟨rfl,rfl,rfl⟩,hb,⟨h0,hi,h8⟩,h⟩:=h
  exact ag.aa4 (es:=aN l) hb (fun j hj=>rfl) (fun j hj=>aj.clean _) (by rw[xl,lY aj.enc l]) (ax (Go.Ev.Clean.int _ _) (ax (Go.Ev.Clean.int _ _) cz)) (NL l i h0 hi h8) h
 ·exact h.elim
theorem Gq:∀ {f:FuncId} {vs:List V} {σ:St} {k:ah},IB f vs σ k→ag Tryz.prog f vs k σ:=fun h=>aP QJ cw h
theorem QK (h:Ub vs σ k):ag Tryz.prog 304 vs k σ:=by
 obtain⟨e,rfl,dD,h⟩:=h
 refine ag.eG (aA e.aG bm) (.int _ _) (F304.flat (live:=Gc) (call:=IB) (n₀:=0) (σ:=Go.Ev.start) (fun h=>Gq h) rfl (by kernel_rfl) ?_) h
 rw[aa9]
 exact⟨e,rfl,dD,fun h=>by rw[h],fun _=>rfl⟩
theorem Gr:∀ {f:FuncId} {vs:List V} {σ:St} {k:ah},De f vs σ k→ag Tryz.prog f vs k σ:=fun h=>aP QK Gq h
def abn (l:List Int):Nat→List SV→Prop
 | 0,ss=>∃i:Nat,i≤l.length∧(∀j,j<i→l.getD j default=0)∧ss=[.val (.int .i64 (0:Int)),.val (ae (V.int .i64) 1 l),.val (.int .i64 ((l.length:Nat):Int)),.val (.int .i64 (i:Int))]
 | _,_=>False
omit [aC] in
theorem QL (l:List Int):Go.Ev.Clean (ae (V.int .i64) 1 l):=dp fun x _=>ax (Go.Ev.Clean.int _ _) cz
theorem QM (h:Uc vs σ k):ag Tryz.prog 312 vs k σ:=by
 obtain⟨l,hf,hn,h⟩:=h
 refine ag.eG hf (.int _ _) (F312.cx (live:=zQ) (call:=De) (n₀:=0) (σ:=Go.Ev.start) (fun h=>Gr h) rfl 1 (by kernel_rfl) Nat.lt_wfRel.wf (fun _ ss=>l.length-cu ss) (abn l) ?_ ?_ ?_) h
 ·intro k ss hI
  cases k with
  | zero=>obtain⟨i,_,_,rfl⟩:=hI;exact aE (aw (QL l) (aE (aE bM)))
  | succ k=>exact hI.elim
 ·rw[aba]
  exact⟨0,by omega,fun j hj=>absurd hj (Nat.not_lt_zero j),rfl⟩
 ·intro k hk ss hI
  obtain rfl:k=0:=by omega
  obtain⟨i,hi,hj,rfl⟩:=hI
  rw[abb]
  refine⟨rfl,av (fun h1=>⟨⟨by omega,by omega⟩,rfl,av (fun h2=>?_) fun h2=>?_⟩) fun h1=>?_⟩
  ·rw[dU] at h2⊢
   show _=V.int .i64 (c9 _ _)
   rw[jK (fun i=>l.getD i default) l.length i (by omega) h2 hj]
  ·rw[dU] at h2
   rw[i64_in ((i:Int)+1) (by omega)]
   refine⟨⟨i+1,by omega,fun j iY=>?_,rfl⟩,?_⟩
   ·by_cases e:j=i
    ·subst e;exact Decidable.not_not.1 h2
    ·exact hj j (by omega)
   ·show l.length-((i:Int)+1).toNat<l.length-(i:Int).toNat
    omega
  ·obtain rfl:i=l.length:=by omega
   show _=V.int .i64 (c9 _ _)
   rw[(ca (fun i=>l.getD i default) l.length).2 hj]
theorem Gs:∀ {f:FuncId} {vs:List V} {σ:St} {k:ah},Df f vs σ k→ag Tryz.prog f vs k σ:=fun h=>aP QM Gr h
def abo (l m:List aj):Nat→List SV→Prop
 | 0,ss=>∃i:Nat,(l.length=m.length∧∀j,j<i→l.getD j default=m.getD j default)∧i≤l.length∧ss=[.val (ae aj.enc 7 l),.val (ae aj.enc 7 m),.val (.int .i64 ((l.length:Nat):Int)),.val (.int .i64 (i:Int))]
 | _,_=>False
omit [Env] [aC] in
theorem aj.vC {x y:aj} (h0:x.f0=y.f0) (h1:x.f1=y.f1) (h2:x.f2=y.f2) (h3:x.f3=y.f3):x=y:=by
 cases x;cases y;simp only at h0 h1 h2 h3;subst h0;subst h1;subst h2;subst h3;rfl
theorem QN (h:Ud vs σ k):ag Tryz.prog 154 vs k σ:=by
 obtain⟨l,m,rfl,hs,h⟩:=h
 refine ag.aT (A:=fQ (l=m)) (aA (fg l) (aA (fg m) bm)) fQ.gb (F154.cx (live:=zR) (call:=Df) (n₀:=0) (σ:=Go.Ev.start) (fun h=>Gs h) rfl 1 (by kernel_rfl) Nat.lt_wfRel.wf (fun _ ss=>l.length-cu ss) (abo l m) ?_ ?_ ?_) fun v ⟨b,hb,e⟩=>by subst e;exact h b hb
 ·intro k ss hI
  cases k with
  | zero=>obtain⟨i,_,_,rfl⟩:=hI;exact aw (fg l) (aw (fg m) (aE (aE bM)))
  | succ k=>exact hI.elim
 ·rw[abc]
  refine⟨rfl,av (fun h1=>iU fun e=>h1 (by rw[e])) fun h1=>⟨0,⟨by omega,fun j hj=>absurd hj (Nat.not_lt_zero j)⟩,by omega,rfl⟩⟩
 ·intro k hk ss hI
  obtain rfl:k=0:=by omega
  obtain⟨i,⟨hl,cS⟩,hi,rfl⟩:=hI
  rw[abd]
  refine⟨rfl,av (fun h1=>⟨⟨by omega,by omega⟩,⟨by omega,by omega⟩,?_⟩) fun h1=>Bs (xh hl fun j hj=>cS j (by omega))⟩
  rw[dU]
  have bad:∀ {p:Prop},(l.getD i default=m.getD i default→p)→¬p→fQ (l=m) (.bool false):=fun h1 h2=>iU fun e=>h2 (h1 (by rw[e]))
  refine av (fun g0=>⟨rfl,av (fun g1=>af.mk (fun g2=>⟨rfl,av (fun g3=>⟨rfl,av (fun g4=>⟨rfl,av (fun g5=>av (fun g6=>?_) fun g=>bad (fun e=>by rw[e]) g) fun g=>bad (fun e=>by rw[e]) g⟩) fun g=>bad (fun e=>by rw[e]) g⟩) fun g=>bad (fun e=>by rw[e]) g⟩) fun g=>bad (p:=(l.getD i default).f2=(m.getD i default).f2) (fun e=>by rw[e]) (by simpa using g)) fun g=>bad (fun e=>by rw[e]) g⟩) fun g=>bad (fun e=>by rw[e]) g
  rw[i64_in ((i:Int)+1) (by omega)]
  refine⟨⟨i+1,⟨hl,fun j hj=>?_⟩,by omega,rfl⟩,?_⟩
  ·by_cases ej:j=i
   ·subst ej;exact aj.vC g0 g1 (by simpa using g2) (ay.vC g3 g4 g5 g6)
   ·exact cS j (by omega)
  ·show l.length-((i:Int)+1).toNat<l.length-(i:Int).toNat
   omega
theorem Gt:∀ {f:FuncId} {vs:List V} {σ:St} {k:ah},IC f vs σ k→ag Tryz.prog f vs k σ:=fun h=>aP QN Gs h
omit [aC] in
theorem et (l:List (List UInt8)):Go.Ev.Clean (ae V.str 1 l):=dp fun x _=>ax (Go.Ev.Clean.str _) cz
theorem QO (h:Ue vs σ k):ag Tryz.prog 301 vs k σ:=by
 obtain⟨t,e,hf,h1,h2⟩:=h
 refine ag.mH hf (F301.ck (live:=Gd) (call:=IC) (fun h=>Gt h) (by kernel_rfl) ?_)
 rw[abe]
 refine⟨rfl,av (fun h3=>bl.ij (.tuple (.cons .ai (.cons (.int _ _) .nil))) (h2 h3)) fun h3=>bl.pair (b:=1) (n:=1) (esz:=3) (g:=fun i=>aa.enc ([t].getD i default)) (.slice (p:=true) (by rfl) (.inl ⟨rfl,by omega⟩) (fun _ _=>rfl) fun i hi=>?_) (.int _ _) (h1 (Decidable.not_not.1 h3))⟩
 obtain rfl:=Nat.lt_one_iff.1 hi
 exact⟨_,by rfl,jh (aa.clean t)⟩
theorem Gu:∀ {f:FuncId} {vs:List V} {σ:St} {k:ah},ID f vs σ k→ag Tryz.prog f vs k σ:=fun h=>aP QO Gt h
end
end Go.Proofs.YtbajncpfmemdgaaGreatDoor
end
section
namespace Go.Proofs.YtbajncpfmemdgaaGreatDoor
open Go Go.Ev Go.IntWalk
section
variable [Env]
theorem K8 {τ:St}:dQ τ .ai (ae V.str 1 []):=.lT (.empty _ _)
theorem yM {τ:St} {b m:Nat} {ex:Bool} {s:List UInt8} (h:τ.cells b 0 (1*1)=some [.str s]):dQ τ (.slice b 0 1 m ex 1) (ae V.str 1 [s]):=
 .lT (.slice (es:=[.str s]) h (.cons (.str _) .nil) (fun v hv=>by rw[List.mem_singleton.1 hv];rfl) rfl)
theorem UW {τ:St} {b m:Nat} {ex:Bool} {s t:List UInt8} (h:τ.cells b 0 (2*1)=some [.str s,.str t]):dQ τ (.slice b 0 2 m ex 1) (ae V.str 1 [s,t]):=
 .lT (.slice (es:=[.str s,.str t]) h (.cons (.str _) (.cons (.str _) .nil)) (fun v hv=>by
  rcases List.mem_cons.1 hv with rfl | hv
  ·rfl
  ·rw[List.mem_singleton.1 hv];rfl) rfl)
variable [aC] {vs:List V} {σ:St} {k:ah}
theorem QP (h:Uf vs σ k):ag Tryz.prog 299 vs k σ:=by
 obtain⟨c,rfl,h⟩:=h
 refine ag.aJ (aA c.aG bm) (F299.ck (live:=Ge) (call:=ID) (fun h=>Gu h) (by kernel_rfl) ?_)
 rw[abf]
 exact bl.ij K8 h
theorem Gv:∀ {f:FuncId} {vs:List V} {σ:St} {k:ah},IE f vs σ k→ag Tryz.prog f vs k σ:=fun h=>aP QP Gu h
theorem QQ (h:Ug vs σ k):ag Tryz.prog 302 vs k σ:=by
 obtain⟨c,rfl,h⟩:=h
 refine ag.aJ (aA c.aG bm) (F302.ck (live:=Gf) (call:=IE) (fun h=>Gv h) (by kernel_rfl) ?_)
 rw[abg]
 exact bl.ij (yM (by rfl)) h
theorem Gw:∀ {f:FuncId} {vs:List V} {σ:St} {k:ah},IF f vs σ k→ag Tryz.prog f vs k σ:=fun h=>aP QQ Gv h
theorem QR (h:Uh vs σ k):ag Tryz.prog 305 vs k σ:=by
 obtain⟨c,rfl,h⟩:=h
 refine ag.aJ (aA c.aG bm) (F305.ck (live:=Gg) (call:=IF) (fun h=>Gw h) (by kernel_rfl) ?_)
 rw[abh]
 exact bl.ij (yM (by rfl)) h
theorem Gx:∀ {f:FuncId} {vs:List V} {σ:St} {k:ah},IG f vs σ k→ag Tryz.prog f vs k σ:=fun h=>aP QR Gw h
theorem QS (h:Ui vs σ k):ag Tryz.prog 308 vs k σ:=by
 obtain⟨c,rfl,h⟩:=h
 refine ag.aJ (aA c.aG bm) (F308.ck (live:=Gh) (call:=IG) (fun h=>Gx h) (by kernel_rfl) ?_)
 rw[abi]
 exact bl.ij (yM (by rfl)) h
theorem Gy:∀ {f:FuncId} {vs:List V} {σ:St} {k:ah},IH f vs σ k→ag Tryz.prog f vs k σ:=fun h=>aP QS Gx h
theorem QT (h:Uj vs σ k):ag Tryz.prog 310 vs k σ:=by
 obtain⟨c,rfl,h⟩:=h
 refine ag.aJ (aA c.aG bm) (F310.ck (live:=Gi) (call:=IH) (fun h=>Gy h) (by kernel_rfl) ?_)
 rw[abj]
 exact bl.ij (yM (by rfl)) h
theorem Gz:∀ {f:FuncId} {vs:List V} {σ:St} {k:ah},II f vs σ k→ag Tryz.prog f vs k σ:=fun h=>aP QT Gy h
theorem QU (h:Uk vs σ k):ag Tryz.prog 313 vs k σ:=by
 obtain⟨c,rfl,h⟩:=h
 refine ag.aJ (aA c.aG bm) (F313.ck (live:=Gj) (call:=II) (fun h=>Gz h) (by kernel_rfl) ?_)
 rw[abk]
 exact bl.ij (UW (by rfl)) h
theorem GA:∀ {f:FuncId} {vs:List V} {σ:St} {k:ah},IJ f vs σ k→ag Tryz.prog f vs k σ:=fun h=>aP QU Gz h
theorem UX (h:Zl vs σ k):ag Tryz.prog 71 vs k σ:=by
 obtain⟨c,rfl,h1,h2,h3,h4,h5,h6,h7⟩:=h
 refine ag.aJ (aA c.aG bm) (F71.ck (live:=K4) (call:=IJ) (fun h=>GA h) (by kernel_rfl) ?_)
 rw[e71]
 refine⟨rfl,av (fun h=>bl.ij (.iface (.clean c.aG)) (h1 h)) fun g1=>⟨rfl,av (fun h=>bl.ij (.iface (.clean c.aG)) (h2 h)) fun g2=>⟨rfl,av (fun h=>bl.ij (.iface (.clean c.aG)) (h3 h)) fun g3=>
  ⟨rfl,av (fun h=>bl.ij (.iface (.clean c.aG)) (h4 h)) fun g4=>⟨rfl,av (fun h=>bl.ij (.iface (.clean c.aG)) (h5 h)) fun g5=>⟨rfl,av (fun h=>bl.ij (.iface (.clean c.aG)) (h6 h)) fun g6=>bl.ij .aV (h7 (by omega))⟩⟩⟩⟩⟩⟩
theorem GB:∀ {f:FuncId} {vs:List V} {σ:St} {k:ah},sB f vs σ k→ag Tryz.prog f vs k σ:=fun h=>aP UX GA h
set_option maxRecDepth 100000 in
theorem UY (h:Ul vs σ k):ag Tryz.prog 72 vs k σ:=by
 unfold Ul at h
 split at h
 ·rename_i t v
  obtain⟨c,hv,ht,h⟩:=h
  obtain rfl:v=ak.enc c:=by cases hv;rfl
  refine ag.eG (aA (Go.Ev.Clean.iface c.aG) bm) (.bool _) (F72.flat (live:=o1) (call:=sB) (n₀:=0) (σ:=Go.Ev.start) (fun h=>GB h) rfl (by kernel_rfl) ?_) h
  rcases ht with rfl | rfl | rfl | rfl | rfl | rfl
  ·rw[W5];rfl
  ·rw[W6];rfl
  ·rw[W7];rfl
  ·rw[W8];rfl
  ·rw[W9];rfl
  ·rw[Xa];rfl
 ·exact h.elim
theorem GC:∀ {f:FuncId} {vs:List V} {σ:St} {k:ah},IK f vs σ k→ag Tryz.prog f vs k σ:=fun h=>aP UY GB h
omit [Env] [aC] in
theorem Dg {c:ak} (h:c.f0=1):aK c=[]:=by
 have h6:¬c.f0=6:=by omega
 have h7:¬(2≤c.f0∧c.f0≤5):=by omega
 unfold aK;rw[if_neg h6,if_neg h7]
omit [Env] [aC] in
theorem UZ {c:ak} (h:c.f0<1∨6<c.f0):aK c=[]:=by
 have h6:¬c.f0=6:=by omega
 have h7:¬(2≤c.f0∧c.f0≤5):=by omega
 unfold aK;rw[if_neg h6,if_neg h7]
omit [Env] [aC] in
theorem kq {c:ak} (h:2≤c.f0∧c.f0≤5):aK c=[c.f1]:=by
 have h6:¬c.f0=6:=by omega
 unfold aK;rw[if_neg h6,if_pos h]
omit [Env] [aC] in
theorem o3 {c:ak} (h:c.f0=6):aK c=[c.f1,c.f2]:=by unfold aK;rw[if_pos h]
omit [aC] in
theorem vF {c:ak} {l:List (List UInt8)} {τ:St} (h:k (ae V.str 1 (aK c)) σ) (hl:aK c=l):bl σ k (ae V.str 1 l) τ:=bl.ij (.clean (et l)) (by rw[←hl];exact h)
theorem U0 (h:Zm vs σ k):ag Tryz.prog 34 vs k σ:=by
 obtain⟨c,rfl,h⟩:=h
 refine ag.aJ (aA c.aG bm) (F34.ck (live:=K5) (call:=IK) (fun h=>GC h) (by kernel_rfl) ?_)
 rw[e34]
 exact⟨c,rfl,fun g=>⟨c,rfl,vF h (Dg g)⟩,fun g=>⟨c,rfl,vF h (kq (by omega))⟩,fun g=>⟨c,rfl,vF h (kq (by omega))⟩,fun g=>⟨c,rfl,vF h (kq (by omega))⟩,fun g=>⟨c,rfl,vF h (kq (by omega))⟩,fun g=>⟨c,rfl,vF h (o3 g)⟩,fun g=>bl.ij K8 (by rw[←UZ g];exact h)⟩
theorem GD:∀ {f:FuncId} {vs:List V} {σ:St} {k:ah},IL f vs σ k→ag Tryz.prog f vs k σ:=fun h=>aP U0 GC h
end
end Go.Proofs.YtbajncpfmemdgaaGreatDoor
end
