/- Proved: parts of the way: BEq19, BD1, BD2, BD3. -/
import Derived.Test.YtbajncpfmemdgaaGreatDoorEvQ18
set_option linter.unusedVariables false
set_option linter.unusedSimpArgs false
section
namespace Go.Proofs.YtbajncpfmemdgaaGreatDoor
open Go Go.Ev
def Fz:Nat→List Nat:=(fun _=>[])
theorem aad [Env] (A:Nat→List SV→Prop) (Q:V→Prop) (e:aj):WE Tryz.prog 304 Tryz.f304 HW 0 Fz A (fun v _=>Q v) [aj.enc e] Go.Ev.start=
  ((∃CA:aj,[.agg (aj.cells e)]=[aj.enc CA]∧tY CA∧(bV CA=0→Q (.int .i64 (0:Int)))∧(bV CA≠0→Q (.int .i64 (bV CA))))):=by kernel_rfl
def To [Env] (vs:List V) (σ:St) (k:ah):Prop:=
 ∃e:aj,vs=[aj.enc e]∧tY e∧k (.int .i64 (bV e)) σ
def CB [Env]:=kS 304 To HW
def zk:Nat→List Nat:=(fun i=>match i with | 0=>[3,6,7,8] | _=>[])
theorem aae [Env] (A:Nat→List SV→Prop) (Q:V→Prop) (l:List Int):WE Tryz.prog 312 Tryz.f312 CB 0 zk A (fun v _=>Q v) [af (V.int .i64) 1 l] Go.Ev.start=
  (A 0 [.val (.int .i64 (0:Int)),.val (af (V.int .i64) 1 l),.val (.int .i64 (((l.length:Nat):Int))),.val (.int .i64 (0:Int))]):=by kernel_rfl
theorem aaf [Env] (A:Nat→List SV→Prop) (Q:V→Prop) (l:List Int) (m i:Int):WL Tryz.prog 312 Tryz.f312 CB 0 zk A (fun v _=>Q v) 0 [.val (.int .i64 (0:Int)),.val (af (V.int .i64) 1 l),.val (.int .i64 m),.val (.int .i64 i)]=
  (((.i64:IntKind)=.i64∧ae (decide (i<m)) (((0≤i∧i<((l.length:Nat):Int))∧((.i64:IntKind)=.i64∧ae (decide (((l.getD i.toNat default))≠(0:Int))) (Q (.int .i64 ((l.getD i.toNat default)))) (A 0 [.val (.int .i64 (0:Int)),.val (af (V.int .i64) 1 l),.val (.int .i64 m),.val (.int .i64 (IntKind.i64.wrap (i+(1:Int))))])))) (Q (.int .i64 (0:Int))))):=by kernel_rfl
def Tp [Env] (vs:List V) (σ:St) (k:ah):Prop:=
 ∃l:List Int,bn σ vs [af (V.int .i64) 1 l]∧l.length≤1000∧k (.int .i64 (OL l)) σ
def CC [Env]:=kS 312 Tp CB
def zl:Nat→List Nat:=(fun i=>match i with | 0=>[0,1,12,13] | _=>[])
theorem aag [Env] (A:Nat→List SV→Prop) (Q:V→Prop) (l m:List aj):WE Tryz.prog 154 Tryz.f154 CC 0 zl A (fun v _=>Q v) [af aj.enc 7 l,af aj.enc 7 m] Go.Ev.start=
  (((.i64:IntKind)=.i64∧ae (decide ((((l.length:Nat):Int))≠(((m.length:Nat):Int)))) (Q (.bool false)) (A 0 [.val (af aj.enc 7 l),.val (af aj.enc 7 m),.val (.int .i64 (((l.length:Nat):Int))),.val (.int .i64 (0:Int))]))):=by kernel_rfl
theorem aah [Env] (A:Nat→List SV→Prop) (Q:V→Prop) (l m:List aj) (c i:Int):WL Tryz.prog 154 Tryz.f154 CC 0 zl A (fun v _=>Q v) 0 [.val (af aj.enc 7 l),.val (af aj.enc 7 m),.val (.int .i64 c),.val (.int .i64 i)]=
  (((.i64:IntKind)=.i64∧ae (decide (i<c)) (((0≤i∧i<((l.length:Nat):Int))∧((0≤i∧i<((m.length:Nat):Int))∧ae (decide (((l.getD i.toNat default).f0)=((m.getD i.toNat default).f0))) (((.i64:IntKind)=.i64∧ae (decide (((l.getD i.toNat default).f1)=((m.getD i.toNat default).f1))) (ae ((l.getD i.toNat default).f2==(m.getD i.toNat default).f2) (((.i64:IntKind)=.i64∧ae (decide (((l.getD i.toNat default).f3.f0)=((m.getD i.toNat default).f3.f0))) (((.i64:IntKind)=.i64∧ae (decide (((l.getD i.toNat default).f3.f1)=((m.getD i.toNat default).f3.f1))) (((.u64:IntKind)=.u64∧ae (decide (((l.getD i.toNat default).f3.f2)=((m.getD i.toNat default).f3.f2))) (ae (decide (((l.getD i.toNat default).f3.f3)=((m.getD i.toNat default).f3.f3))) (A 0 [.val (af aj.enc 7 l),.val (af aj.enc 7 m),.val (.int .i64 c),.val (.int .i64 (IntKind.i64.wrap (i+(1:Int))))]) (Q (.bool false))) (Q (.bool false)))) (Q (.bool false)))) (Q (.bool false)))) (Q (.bool false))) (Q (.bool false)))) (Q (.bool false))))) (Q (.bool true)))):=by kernel_rfl
def Tq [Env] (vs:List V) (σ:St) (k:ah):Prop:=
 ∃x y:List aj,vs=[af aj.enc 7 x,af aj.enc 7 y]∧x.length≤1000000∧∀b:Bool,(b=true↔x=y)→k (.bool b) σ
def HX [Env]:=kS 154 Tq CC
def FA:Nat→List Nat:=(fun _=>[])
theorem aai [Env] (A:Nat→List SV→Prop) (Q:V→St→Prop) (t:aa) (e:Int):WE Tryz.prog 301 Tryz.f301 HX 0 FA A Q [aa.enc t,.int .i64 e] Go.Ev.start=
  (((.i64:IntKind)=.i64∧ae (decide (e≠(0:Int))) (Q (.tuple [.ai,.int .i64 e]) ⟨(St.new Go.Ev.start 0 (.cells 3 [] (an (aa.cells t) .leaf 0) true false)).heap,1⟩) (Q (.tuple [.slice 1 0 (1) (1) true 3,.int .i64 (0:Int)]) ⟨(St.new (St.new Go.Ev.start 0 (.cells 3 [] (an (aa.cells t) .leaf 0) true false)) 1 (.cells 3 [] (an (aa.cells t) .leaf 0) true false)).heap,2⟩))):=by kernel_rfl
def Tr [Env] (vs:List V) (σ:St) (k:ah):Prop:=
 ∃(t:aa) (e:Int),bn σ vs [aa.enc t,.int .i64 e]∧(e=0→k (.tuple [.own σ.next 1 3,.int .i64 0]) ((void σ.next).new σ.next (.row 1 (fun i=>aa.enc ([t].getD i default)) 3 false)))∧(e≠0→k (.tuple [.ai,.int .i64 e]) (void σ.next))
def HY [Env]:=kS 301 Tr HX
def FB:Nat→List Nat:=(fun _=>[])
theorem aaj [Env] (A:Nat→List SV→Prop) (Q:V→St→Prop) (c:ak):WE Tryz.prog 299 Tryz.f299 HY 0 FB A Q [ak.enc c] Go.Ev.start=
  (Q (.ai) ⟨(St.new Go.Ev.start 0 (.cells 18 [] (an (ak.cells c) .leaf 0) true false)).heap,1⟩):=by kernel_rfl
def Ts [Env] (vs:List V) (σ:St) (k:ah):Prop:=
 ∃c:ak,vs=[ak.enc c]∧k (af V.str 1 (([]:List (List UInt8)))) σ
def HZ [Env]:=kS 299 Ts HY
def FC:Nat→List Nat:=(fun _=>[])
theorem aak [Env] (A:Nat→List SV→Prop) (Q:V→St→Prop) (c:ak):WE Tryz.prog 302 Tryz.f302 HZ 0 FC A Q [ak.enc c] Go.Ev.start=
  (Q (.slice 1 0 (1) (1) true 1) ⟨(St.new (St.new Go.Ev.start 0 (.cells 18 [] (an (ak.cells c) .leaf 0) true false)) 1 (.cells 1 [] (an [.str c.f1] .leaf 0) true false)).heap,2⟩):=by kernel_rfl
def Tt [Env] (vs:List V) (σ:St) (k:ah):Prop:=
 ∃c:ak,vs=[ak.enc c]∧k (af V.str 1 ([c.f1])) σ
def H0 [Env]:=kS 302 Tt HZ
def FD:Nat→List Nat:=(fun _=>[])
theorem aal [Env] (A:Nat→List SV→Prop) (Q:V→St→Prop) (c:ak):WE Tryz.prog 305 Tryz.f305 H0 0 FD A Q [ak.enc c] Go.Ev.start=
  (Q (.slice 1 0 (1) (1) true 1) ⟨(St.new (St.new Go.Ev.start 0 (.cells 18 [] (an (ak.cells c) .leaf 0) true false)) 1 (.cells 1 [] (an [.str c.f1] .leaf 0) true false)).heap,2⟩):=by kernel_rfl
def Tu [Env] (vs:List V) (σ:St) (k:ah):Prop:=
 ∃c:ak,vs=[ak.enc c]∧k (af V.str 1 ([c.f1])) σ
def H2 [Env]:=kS 305 Tu H0
def FE:Nat→List Nat:=(fun _=>[])
theorem aam [Env] (A:Nat→List SV→Prop) (Q:V→St→Prop) (c:ak):WE Tryz.prog 308 Tryz.f308 H2 0 FE A Q [ak.enc c] Go.Ev.start=
  (Q (.slice 1 0 (1) (1) true 1) ⟨(St.new (St.new Go.Ev.start 0 (.cells 18 [] (an (ak.cells c) .leaf 0) true false)) 1 (.cells 1 [] (an [.str c.f1] .leaf 0) true false)).heap,2⟩):=by kernel_rfl
def Tv [Env] (vs:List V) (σ:St) (k:ah):Prop:=
 ∃c:ak,vs=[ak.enc c]∧k (af V.str 1 ([c.f1])) σ
def H3 [Env]:=kS 308 Tv H2
def FF:Nat→List Nat:=(fun _=>[])
theorem aan [Env] (A:Nat→List SV→Prop) (Q:V→St→Prop) (c:ak):WE Tryz.prog 310 Tryz.f310 H3 0 FF A Q [ak.enc c] Go.Ev.start=
  (Q (.slice 1 0 (1) (1) true 1) ⟨(St.new (St.new Go.Ev.start 0 (.cells 18 [] (an (ak.cells c) .leaf 0) true false)) 1 (.cells 1 [] (an [.str c.f1] .leaf 0) true false)).heap,2⟩):=by kernel_rfl
def Tw [Env] (vs:List V) (σ:St) (k:ah):Prop:=
 ∃c:ak,vs=[ak.enc c]∧k (af V.str 1 ([c.f1])) σ
def H4 [Env]:=kS 310 Tw H3
def FG:Nat→List Nat:=(fun _=>[])
theorem aao [Env] (A:Nat→List SV→Prop) (Q:V→St→Prop) (c:ak):WE Tryz.prog 313 Tryz.f313 H4 0 FG A Q [ak.enc c] Go.Ev.start=
  (Q (.slice 1 0 (2) (2) true 1) ⟨(St.new (St.new Go.Ev.start 0 (.cells 18 [] (an (ak.cells c) .leaf 0) true false)) 1 (.cells 2 [] (an [.str c.f1,.str c.f2] .leaf 0) true false)).heap,2⟩):=by kernel_rfl
def Tx [Env] (vs:List V) (σ:St) (k:ah):Prop:=
 ∃c:ak,vs=[ak.enc c]∧k (af V.str 1 ([c.f1,c.f2])) σ
def H5 [Env]:=kS 313 Tx H4
def Kp:Nat→List Nat:=(fun _=>[])
theorem e71 [Env] (A:Nat→List SV→Prop) (Q:V→St→Prop) (c:ak):WE Tryz.prog 71 Tryz.f71 H5 0 Kp A Q [ak.enc c] Go.Ev.start=
  (((.i64:IntKind)=.i64∧ae (decide (c.f0=(1:Int))) (Q (.iface 159 (.agg (ak.cells c))) ⟨(St.new Go.Ev.start 0 (.cells 18 [] (an (ak.cells c) .leaf 0) true false)).heap,1⟩) (((.i64:IntKind)=.i64∧ae (decide (c.f0=(2:Int))) (Q (.iface 160 (.agg (ak.cells c))) ⟨(St.new Go.Ev.start 0 (.cells 18 [] (an (ak.cells c) .leaf 0) true false)).heap,1⟩) (((.i64:IntKind)=.i64∧ae (decide (c.f0=(3:Int))) (Q (.iface 161 (.agg (ak.cells c))) ⟨(St.new Go.Ev.start 0 (.cells 18 [] (an (ak.cells c) .leaf 0) true false)).heap,1⟩) (((.i64:IntKind)=.i64∧ae (decide (c.f0=(4:Int))) (Q (.iface 162 (.agg (ak.cells c))) ⟨(St.new Go.Ev.start 0 (.cells 18 [] (an (ak.cells c) .leaf 0) true false)).heap,1⟩) (((.i64:IntKind)=.i64∧ae (decide (c.f0=(5:Int))) (Q (.iface 163 (.agg (ak.cells c))) ⟨(St.new Go.Ev.start 0 (.cells 18 [] (an (ak.cells c) .leaf 0) true false)).heap,1⟩) (((.i64:IntKind)=.i64∧ae (decide (c.f0=(6:Int))) (Q (.iface 164 (.agg (ak.cells c))) ⟨(St.new Go.Ev.start 0 (.cells 18 [] (an (ak.cells c) .leaf 0) true false)).heap,1⟩) (Q (.aW) ⟨(St.new Go.Ev.start 0 (.cells 18 [] (an (ak.cells c) .leaf 0) true false)).heap,1⟩))))))))))))):=by kernel_rfl
def Yn [Env] (vs:List V) (σ:St) (k:ah):Prop:=
 ∃c:ak,vs=[ak.enc c]∧(c.f0=1→k (.iface 159 (ak.enc c)) σ)∧(c.f0=2→k (.iface 160 (ak.enc c)) σ)∧(c.f0=3→k (.iface 161 (ak.enc c)) σ)∧(c.f0=4→k (.iface 162 (ak.enc c)) σ)∧(c.f0=5→k (.iface 163 (ak.enc c)) σ)∧(c.f0=6→k (.iface 164 (ak.enc c)) σ)∧((c.f0<1∨6<c.f0)→k .aW σ)
def sg [Env]:=kS 71 Yn H5
def oR:Nat→List Nat:=(fun _=>[])
theorem V2 [Env] (A:Nat→List SV→Prop) (Q:V→Prop) (c:ak):WE Tryz.prog 72 Tryz.f72 sg 0 oR A (fun v _=>Q v) [.iface 159 (ak.enc c)] Go.Ev.start=
  (Q (.bool true)):=by kernel_rfl
theorem V3 [Env] (A:Nat→List SV→Prop) (Q:V→Prop) (c:ak):WE Tryz.prog 72 Tryz.f72 sg 0 oR A (fun v _=>Q v) [.iface 160 (ak.enc c)] Go.Ev.start=
  (Q (.bool false)):=by kernel_rfl
theorem V4 [Env] (A:Nat→List SV→Prop) (Q:V→Prop) (c:ak):WE Tryz.prog 72 Tryz.f72 sg 0 oR A (fun v _=>Q v) [.iface 161 (ak.enc c)] Go.Ev.start=
  (Q (.bool false)):=by kernel_rfl
theorem V5 [Env] (A:Nat→List SV→Prop) (Q:V→Prop) (c:ak):WE Tryz.prog 72 Tryz.f72 sg 0 oR A (fun v _=>Q v) [.iface 162 (ak.enc c)] Go.Ev.start=
  (Q (.bool false)):=by kernel_rfl
theorem V6 [Env] (A:Nat→List SV→Prop) (Q:V→Prop) (c:ak):WE Tryz.prog 72 Tryz.f72 sg 0 oR A (fun v _=>Q v) [.iface 163 (ak.enc c)] Go.Ev.start=
  (Q (.bool false)):=by kernel_rfl
theorem V7 [Env] (A:Nat→List SV→Prop) (Q:V→Prop) (c:ak):WE Tryz.prog 72 Tryz.f72 sg 0 oR A (fun v _=>Q v) [.iface 164 (ak.enc c)] Go.Ev.start=
  (Q (.bool false)):=by kernel_rfl
def Ty [Env] (vs:List V) (σ:St) (k:ah):Prop:=
 match vs with
 | [.iface t _]=>∃c:ak,vs=[.iface t (ak.enc c)]∧(t=159∨t=160∨t=161∨t=162∨t=163∨t=164)∧k (.bool (Nat.beq t 159)) σ
 | _=>False
def H6 [Env]:=kS 72 Ty sg
def Kq:Nat→List Nat:=(fun _=>[])
theorem e34 [Env] (A:Nat→List SV→Prop) (Q:V→St→Prop) (c:ak):WE Tryz.prog 34 Tryz.f34 H6 0 Kq A Q [ak.enc c] Go.Ev.start=
  ((∃kG:ak,[.agg (ak.cells c)]=[ak.enc kG]∧(kG.f0=1→(∃aap:ak,[ak.enc kG]=[ak.enc aap]∧Q (af V.str 1 ((([]:List (List UInt8))))) ⟨(St.new Go.Ev.start 0 (.cells 18 [] (an (ak.cells c) .leaf 0) true false)).heap,1⟩))∧(kG.f0=2→(∃Tz:ak,[ak.enc kG]=[ak.enc Tz]∧Q (af V.str 1 (([Tz.f1]))) ⟨(St.new Go.Ev.start 0 (.cells 18 [] (an (ak.cells c) .leaf 0) true false)).heap,1⟩))∧(kG.f0=3→(∃TA:ak,[ak.enc kG]=[ak.enc TA]∧Q (af V.str 1 (([TA.f1]))) ⟨(St.new Go.Ev.start 0 (.cells 18 [] (an (ak.cells c) .leaf 0) true false)).heap,1⟩))∧(kG.f0=4→(∃TB:ak,[ak.enc kG]=[ak.enc TB]∧Q (af V.str 1 (([TB.f1]))) ⟨(St.new Go.Ev.start 0 (.cells 18 [] (an (ak.cells c) .leaf 0) true false)).heap,1⟩))∧(kG.f0=5→(∃TC:ak,[ak.enc kG]=[ak.enc TC]∧Q (af V.str 1 (([TC.f1]))) ⟨(St.new Go.Ev.start 0 (.cells 18 [] (an (ak.cells c) .leaf 0) true false)).heap,1⟩))∧(kG.f0=6→(∃MV:ak,[ak.enc kG]=[ak.enc MV]∧Q (af V.str 1 (([MV.f1,MV.f2]))) ⟨(St.new Go.Ev.start 0 (.cells 18 [] (an (ak.cells c) .leaf 0) true false)).heap,1⟩))∧((kG.f0<1∨6<kG.f0)→Q (.ai) ⟨(St.new Go.Ev.start 0 (.cells 18 [] (an (ak.cells c) .leaf 0) true false)).heap,1⟩))):=by kernel_rfl
def Yo [Env] (vs:List V) (σ:St) (k:ah):Prop:=
 ∃c:ak,vs=[ak.enc c]∧k (af V.str 1 (aQ c)) σ
def H7 [Env]:=kS 34 Yo H6
end Go.Proofs.YtbajncpfmemdgaaGreatDoor
end
section
namespace Go.Proofs.YtbajncpfmemdgaaGreatDoor
open Go Go.Ev Go.IntWalk
theorem F122:bS Tryz.prog 122 Tryz.f122:=.of (by kernel_rfl) (by kernel_rfl)
theorem F73:bS Tryz.prog 73 Tryz.f73:=.of (by kernel_rfl) (by kernel_rfl)
theorem F250:bS Tryz.prog 250 Tryz.f250:=.of (by kernel_rfl) (by kernel_rfl)
theorem F226:bS Tryz.prog 226 Tryz.f226:=.of (by kernel_rfl) (by kernel_rfl)
theorem F74:bS Tryz.prog 74 Tryz.f74:=.of (by kernel_rfl) (by kernel_rfl)
theorem F307:bS Tryz.prog 307 Tryz.f307:=.of (by kernel_rfl) (by kernel_rfl)
theorem F304:bS Tryz.prog 304 Tryz.f304:=.of (by kernel_rfl) (by kernel_rfl)
theorem F312:bS Tryz.prog 312 Tryz.f312:=.of (by kernel_rfl) (by kernel_rfl)
theorem F154:bS Tryz.prog 154 Tryz.f154:=.of (by kernel_rfl) (by kernel_rfl)
theorem F301:bS Tryz.prog 301 Tryz.f301:=.of (by kernel_rfl) (by kernel_rfl)
theorem F299:bS Tryz.prog 299 Tryz.f299:=.of (by kernel_rfl) (by kernel_rfl)
theorem F302:bS Tryz.prog 302 Tryz.f302:=.of (by kernel_rfl) (by kernel_rfl)
theorem F305:bS Tryz.prog 305 Tryz.f305:=.of (by kernel_rfl) (by kernel_rfl)
theorem F308:bS Tryz.prog 308 Tryz.f308:=.of (by kernel_rfl) (by kernel_rfl)
theorem F310:bS Tryz.prog 310 Tryz.f310:=.of (by kernel_rfl) (by kernel_rfl)
theorem F313:bS Tryz.prog 313 Tryz.f313:=.of (by kernel_rfl) (by kernel_rfl)
theorem F71:bS Tryz.prog 71 Tryz.f71:=.of (by kernel_rfl) (by kernel_rfl)
theorem F72:bS Tryz.prog 72 Tryz.f72:=.of (by kernel_rfl) (by kernel_rfl)
theorem F34:bS Tryz.prog 34 Tryz.f34:=.of (by kernel_rfl) (by kernel_rfl)
section
variable [Env] [aE] {vs:List V} {σ:St} {k:ah}
theorem TD (h:Yg vs σ k):ag Tryz.prog 27 vs k σ:=by
 obtain⟨l,rfl⟩:=h.1
 have hc:Go.Ev.Clean (af aa.enc 3 l):=bX l
 refine ug (uf hc) ?_ h
 by_cases hl:l.length≤20
 ·refine F27.cG (live:=qU) (call:=ui) (n₀:=0) (fun h=>qV h) rfl 1 (by kernel_rfl) Nat.lt_wfRel.wf (fun _ ss=>30-cF ss) (J4 aa.enc 3 l) (pD hc) ?_ ?_
  ·rw[JK]
   exact⟨rfl,ae.mk (fun e=>absurd (of_decide_eq_true e) (by omega)) fun _=>⟨0,by omega,by omega,rfl⟩⟩
  ·intro k hk ss hI
   obtain rfl:k=0:=by omega
   obtain⟨i,h0,h1,rfl⟩:=hI
   rw[Yf]
   refine⟨rfl,ae.mk (fun e=>?_) fun _=>z1⟩
   have e:=of_decide_eq_true e
   refine⟨⟨h0,e⟩,⟨_,rfl⟩,⟨rfl,z0⟩,rfl,⟨i+1,by omega,by omega,by rw[i64_in _ (by omega)]⟩,?_⟩
   rw[i64_in _ (by omega),iA,iA]
   show 30-(i+1).toNat<30-i.toNat
   omega
 ·refine F27.cG (live:=qU) (call:=ui) (n₀:=0) (fun h=>qV h) rfl 1 (by kernel_rfl) Nat.lt_wfRel.wf (fun _ _=>0) (fun _ _=>False) (fun _ _ h=>h.elim) ?_ fun _ _ _ h=>h.elim
  rw[JK]
  exact⟨rfl,ae.mk (fun _=>z0) fun e=>absurd (of_decide_eq_false e) (by omega)⟩
theorem FH:∀ {f:FuncId} {vs:List V} {σ:St} {k:ah},Cu f vs σ k→ag Tryz.prog f vs k σ:=fun h=>aR TD qV h
def aaq (s:List UInt8) (n:Nat) (q:Nat→List UInt8):Nat→List SV→Prop
 | 0,ss=>∃i:Nat,i≤n∧(∀j,j<i→q j≠s)∧ss=[.val (V.arr n (fun i=>V.str (q i)) 1 false false),.val (.str s),.val (.int .i64 ((n:Nat):Int)),.val (.int .i64 i)]
 | _,_=>False
theorem PZ (h:Mq vs σ k):ag Tryz.prog 122 vs k σ:=by
 unfold Mq at h
 split at h
 ·rename_i n f s
  obtain⟨q,rfl,hn,h⟩:=h
  refine ag.eJ (aA (n4 n q) (aA (Go.Ev.Clean.str _) bm)) (.int _ _) ?_ h
  refine F122.cG (live:=zj) (call:=Cu) (n₀:=0) (σ:=Go.Ev.start) (fun h=>FH h) rfl 1 (by kernel_rfl) Nat.lt_wfRel.wf (fun _ ss=>n-cF ss) (aaq s n q) ?_ ?_ ?_
  ·intro k ss hI
   cases k with
   | zero=>obtain⟨i,_,_,rfl⟩:=hI;exact va (oL (aF (aF bW)))
   | succ k=>exact hI.elim
  ·rw[Z9]
   exact⟨0,by omega,fun j hj=>absurd hj (Nat.not_lt_zero j),rfl⟩
  ·intro k hk ss hI
   obtain rfl:k=0:=by omega
   obtain⟨i,hi,hj,rfl⟩:=hI
   rw[aaa]
   refine⟨rfl,av (fun h1=>⟨⟨by omega,by omega⟩,av (fun h2=>?_) fun h2=>?_⟩) fun h1=>?_⟩
   ·rw[eu] at h2
    rw[nS s q n i (by omega) h2.symm hj]
   ·rw[eu] at h2
    rw[i64_in ((i:Int)+1) (by omega)]
    refine⟨⟨i+1,by omega,fun j jg=>?_,rfl⟩,?_⟩
    ·by_cases e:j=i
     ·rw[e];exact fun h=>h2 h.symm
     ·exact hj j (by omega)
    ·show n-((i:Int)+1).toNat<n-(i:Int).toNat
     omega
   ·obtain rfl:i=n:=by omega
    rw[jN s q i hj]
 ·exact h.elim
theorem FI:∀ {f:FuncId} {vs:List V} {σ:St} {k:ah},HT f vs σ k→ag Tryz.prog f vs k σ:=fun h=>aR PZ FH h
theorem TE (h:Tj vs σ k):ag Tryz.prog 73 vs k σ:=by
 unfold Tj at h
 split at h
 ·rename_i n f s
  obtain⟨q,rfl,hn,h⟩:=h
  refine ag.eJ (aA (n4 n q) (aA (Go.Ev.Clean.str _) bm)) (.bool _) (F73.flat (live:=Ko) (call:=HT) (n₀:=0) (σ:=Go.Ev.start) (fun h=>FI h) rfl (by kernel_rfl) ?_) h
  rw[e73]
  exact⟨q,rfl,hn,rfl,av (fun h=>by rw[decide_eq_true h]) fun h=>by rw[decide_eq_false h]⟩
 ·exact h.elim
theorem FJ:∀ {f:FuncId} {vs:List V} {σ:St} {k:ah},HU f vs σ k→ag Tryz.prog f vs k σ:=fun h=>aR TE FI h
theorem P0 (h:Mr vs σ k):ag Tryz.prog 250 vs k σ:=by
 unfold Mr at h
 split at h
 ·rename_i n f s
  obtain⟨q,rfl,hn,h⟩:=h
  refine ag.eJ (aA (n4 n q) (aA (Go.Ev.Clean.str _) bm)) (.int _ _) (F250.flat (live:=Fx) (call:=HU) (n₀:=0) (σ:=Go.Ev.start) (fun h=>FJ h) rfl (by kernel_rfl) ?_) h
  rw[aab]
  exact⟨q,rfl,hn,rfl⟩
 ·exact h.elim
theorem FK:∀ {f:FuncId} {vs:List V} {σ:St} {k:ah},HV f vs σ k→ag Tryz.prog f vs k σ:=fun h=>aR P0 FJ h
theorem FL (h:Tn vs σ k):ag Tryz.prog 226 vs k σ:=by
 obtain⟨t,s,rfl,hn,h⟩:=h
 refine ag.eJ (aA t.aG (aA (Go.Ev.Clean.str _) bm)) (.int _ _) (F226.flat (live:=Fy) (call:=HV) (n₀:=0) (σ:=Go.Ev.start) (fun h=>FK h) rfl (by kernel_rfl) ?_) h
 rw[aac]
 exact⟨_,rfl,hn,_,rfl,by omega,rfl⟩
theorem zm:∀ {f:FuncId} {vs:List V} {σ:St} {k:ah},Cy f vs σ k→ag Tryz.prog f vs k σ:=fun h=>aR FL FK h
omit [aE] in
theorem jP {τ:St} {cs:List V} (h:∀v∈cs,Go.Ev.Clean v):bn τ cs cs:=bn.clean h
omit [aE] in
theorem bk.row {σ:St} {k:ah} {v:V} {τ:St} {b n esz:Nat} {g:Nat→V} (h:mi τ b n g esz v) (hk:k (.own σ.next n esz) (σ.new σ.next (.row n g esz false))):bk σ k v τ:=.inr (.inl ⟨_,_,_,_,h,hk⟩)
omit [aE] in
theorem bk.pair {σ:St} {k:ah} {w e e':V} {τ:St} {b n esz:Nat} {g:Nat→V} (h:mi τ b n g esz w) (he:dQ (τ.kill b) e e') (hk:k (.tuple [.own σ.next n esz,e']) (σ.new σ.next (.row n g esz false))):bk σ k (.tuple [w,e]) τ:=.inr (.inr ⟨_,_,_,_,_,_,_,rfl,h,he,hk⟩)
omit [aE] in
theorem bk.ic {σ:St} {k:ah} {v u:V} {τ:St} (h:dQ τ v u) (hk:k u σ):bk σ k v τ:=.inl ⟨_,h,hk⟩
omit [aE] in
theorem Kr {n:Nat} {f:Nat→V} {esz:Nat} {ex:Bool} {x:Value} {ρ:Go.Ev.Ren} (hn:0<n) (h:aq ρ (.arr n f esz ex false) x):aq ρ (.arr n f esz ex true) x:=by
 cases h with
 | arr _ h=>
  refine .arr (fun _=>?_) h
  have hl:=aT n f
  generalize bY n f=es at h hl
  cases h with
  | bj hu hx hi hc he=>exact⟨_,_,_,rfl⟩
  | dM=>simp at hl;omega
  | dc he=>simp at hl;omega
theorem TF (h:Ym vs σ k):ag Tryz.prog 74 vs k σ:=by
 obtain⟨l,rfl,hn,h⟩:=h
 refine ag.aJ (us:=[af aj.enc 7 l]) (aA (e6 l) bm) (bH.imp (us:=[Hd aj.enc 7 l]) (fun ρ xs hx=>?_) (F74.cg (live:=Cz) (call:=Cy) (fun h=>zm h) (by kernel_rfl) ?_))
 ·cases hx with
  | cons h1 h2=>exact .cons (Kr hn.1 h1) h2
 ·rw[Yl]
  refine av (fun h1=>by omega) fun h1=>⟨by omega,bk.row (.own (f:=fun i=>aj.enc (l.getD i default)) (g:=fun i=>aj.enc (l.getD i default)) (p:=true) (by rfl) fun i hi=>jP (aj.clean _)) h⟩
theorem ct:∀ {f:FuncId} {vs:List V} {σ:St} {k:ah},ca f vs σ k→ag Tryz.prog f vs k σ:=fun h=>aR TF zm h
omit [Env] [aE] in
theorem bC.one (x:aj):bC 1 (fun _=>.agg (aj.cells x)) [x]:=⟨rfl,fun i hi=>by
 obtain rfl:=Nat.lt_one_iff.1 hi
 rfl⟩
omit [Env] [aE] in
theorem bC.push {n:Nat} {f:Nat→V} {l:List aj} (h:bC n f l) (x:aj):bC (n+1) (dU n f fun _=>.agg (aj.cells x)) (l++[x]):=by
 obtain⟨rfl,h2⟩:=h
 refine⟨by simp,fun i hi=>?_⟩
 by_cases e:i=l.length
 ·subst e;rw[Et];simp [List.getD_eq_getElem?_getD];rfl
 ·rw[Es _ _ (by omega),h2 i (by omega)]
  simp [List.getD_eq_getElem?_getD,List.getElem?_append_left (show i<l.length by omega)]
omit [aE] in
theorem bC.cl {n:Nat} {f:Nat→V} {l:List aj} (h:bC n f l):∀i,i<n→∀u∈(f i).cells,Go.Ev.Clean u:=fun i hi u hu=>by
 rw[h.2 i hi] at hu;exact aj.clean _ u hu
omit [Env] [aE] in
theorem bC.len {n:Nat} {f:Nat→V} {l:List aj} (h:bC n f l) {i:Nat} (hi:i<n):(f i).cells.length=7:=by rw[h.2 i hi];rfl
omit [Env] [aE] in
theorem oS {α:Type} (p:Nat→Bool) (q:Nat→α):∀n,(bp p q n).length≤n
 | 0=>Nat.le_refl _
 | n+1=>by
  show(if p n=true then bp p q n++[q n] else bp p q n).length≤n+1
  have:=oS p q n
  split
  ·simp;omega
  ·omega
omit [Env] [aE] in
theorem zn {α:Type} {p:Nat→Bool} {q:Nat→α} {n:Nat} (h:p n=true):bp p q (n+1)=bp p q n++[q n]:=if_pos h
omit [Env] [aE] in
theorem wO {α:Type} {p:Nat→Bool} {q:Nat→α} {n:Nat} (h:¬p n=true):bp p q (n+1)=bp p q n:=if_neg h
end
end Go.Proofs.YtbajncpfmemdgaaGreatDoor
end
section
namespace Go.Proofs.YtbajncpfmemdgaaGreatDoor
open Go Go.Ev Go.IntWalk
section
variable [Env]
theorem pC.sub {esz b n m N:Nat} {g:Nat→V} {z:List V} {t:Trie V} {p:Bool} {τ:St} (hb:τ.heap.get b=some (.cells N z t p false)) (hn:n≠0) (hm:n≤m) (hN:n*esz≤N) (hu:∀i,i<n→(g i).cells.length=esz)
  (hc:∀i,i<n→∀k v,(g i).cells[k]? =some v→cellOf N z t (i*esz+k)=some v∧Go.Ev.Clean v):pC esz (.slice b 0 n m false esz) τ n g:=
 ⟨b,_,hb,fun _ _ hm'=>⟨.N9 hm' hn hm,.D6 hN (fun h=>by cases h) hu fun i hi k v hv=>⟨v,(hc i hi k v hv).1,.clean (hc i hi k v hv).2⟩⟩⟩
omit [Env] in
theorem wP:∀l:List aj,aM l=ar (l.map aj.enc)
 | []=>rfl
 | x::l=>by rw[List.map_cons,bO,←wP l];rfl
omit [Env] in
theorem MW (l:List aj):∀v∈l.map aj.enc,v.cells.length=7:=fun v hv=>by
 obtain⟨x,_,rfl⟩:=List.mem_map.1 hv;rfl
omit [Env] in
theorem Ks {l:List aj} {i:Nat} (hi:i<l.length) {k:Nat} (hk:k<7):(aM l)[i*7+k]? =(aj.cells (l.getD i default))[k]? :=by
 rw[wP,fO (MW l) (i:=i) (u:=aj.enc (l.getD i default)) (by rw[List.getElem?_map,List.getD_eq_getElem?_getD,List.getElem?_eq_getElem hi];rfl) hk];rfl
omit [Env] in
theorem yf {N:Nat} {es:List V} {i:Nat} {v:V} (hi:es[i]? =some v) (hN:i<N):cellOf N [] (an es .leaf 0) i=some v:=by
 have bz:=(List.getElem?_eq_some_iff.1 hi).1
 unfold cellOf
 rw[show Nat.blt i N=true by rw[Nat.blt_eq];exact hN]
 dsimp only
 rw[jH,if_pos ⟨Nat.zero_le _,by omega⟩,Nat.sub_zero,hi]
theorem cy (os:List aj) (ho:os≠[]) {nx:Nat}:eD 7 (fun m f=>bC m f os) (.slice 0 0 os.length (os.length+1) false 7) ⟨(aU (.cells ((os.length+1)*7) [] (an (aM (os++[dG])) .leaf 0) false false)).heap,nx⟩:=by
 refine⟨os.length,fun j=>aj.enc (os.getD j default),pC.sub (b:=0) (p:=false) (by rfl) (fun e=>ho (List.eq_nil_of_length_eq_zero e)) (by omega) (Nat.mul_le_mul_right 7 (by omega)) (fun i hi=>rfl) (fun i hi k v hv=>⟨yf ?_ ?_,aj.clean _ v (List.mem_of_getElem? hv)⟩),rfl,fun i hi=>rfl⟩
 ·have hk:k<7:=(List.getElem?_eq_some_iff.1 hv).1
  rw[Ks (by simp;omega) hk]
  have:(os++[dG]).getD i default=os.getD i default:=by simp [List.getD_eq_getElem?_getD,List.getElem?_append_left hi]
  rw[this];exact hv
 ·have hk:k<7:=(List.getElem?_eq_some_iff.1 hv).1
  have:=kv hi (Nat.succ_le_of_lt hk)
  omega
variable [aE] {vs:List V} {σ:St} {k:ah}
theorem TG (x0 x1:aj):bH Tryz.prog 307 [.slice 0 0 2 2 false 7,.int .i64 1,.int .i64 2] (eD 7 fun m f=>bC m f (bp (fun j=>decide (j≠1)) (fun j=>[x0,x1].getD j default) 2)) (aU (.cells 14 [] (an (aM [x0,x1]) .leaf 0) false false)):=by
 rw[show bp (fun j=>decide (j≠1)) (fun j=>[x0,x1].getD j default) 2=[x0] by kernel_rfl]
 exact F307.cg (live:=fun _=>[]) (call:=ca) (fun h=>ct h) (by kernel_rfl) (by rw[Ms];exact⟨rfl,cy [x0] (List.cons_ne_nil _ _)⟩)
theorem TH (x0 x1 x2:aj):bH Tryz.prog 307 [.slice 0 0 3 3 false 7,.int .i64 1,.int .i64 2] (eD 7 fun m f=>bC m f (bp (fun j=>decide (j≠1)) (fun j=>[x0,x1,x2].getD j default) 3)) (aU (.cells 21 [] (an (aM [x0,x1,x2]) .leaf 0) false false)):=by
 rw[show bp (fun j=>decide (j≠1)) (fun j=>[x0,x1,x2].getD j default) 3=[x0,x2] by kernel_rfl]
 exact F307.cg (live:=fun _=>[]) (call:=ca) (fun h=>ct h) (by kernel_rfl) (by rw[Mt];exact⟨rfl,cy [x0,x2] (List.cons_ne_nil _ _)⟩)
theorem TJ (x0 x1 x2:aj):bH Tryz.prog 307 [.slice 0 0 3 3 false 7,.int .i64 2,.int .i64 3] (eD 7 fun m f=>bC m f (bp (fun j=>decide (j≠2)) (fun j=>[x0,x1,x2].getD j default) 3)) (aU (.cells 21 [] (an (aM [x0,x1,x2]) .leaf 0) false false)):=by
 rw[show bp (fun j=>decide (j≠2)) (fun j=>[x0,x1,x2].getD j default) 3=[x0,x1] by kernel_rfl]
 exact F307.cg (live:=fun _=>[]) (call:=ca) (fun h=>ct h) (by kernel_rfl) (by rw[Mu];exact⟨rfl,cy [x0,x1] (List.cons_ne_nil _ _)⟩)
theorem TK (x0 x1 x2 x3:aj):bH Tryz.prog 307 [.slice 0 0 4 4 false 7,.int .i64 1,.int .i64 2] (eD 7 fun m f=>bC m f (bp (fun j=>decide (j≠1)) (fun j=>[x0,x1,x2,x3].getD j default) 4)) (aU (.cells 28 [] (an (aM [x0,x1,x2,x3]) .leaf 0) false false)):=by
 rw[show bp (fun j=>decide (j≠1)) (fun j=>[x0,x1,x2,x3].getD j default) 4=[x0,x2,x3] by kernel_rfl]
 exact F307.cg (live:=fun _=>[]) (call:=ca) (fun h=>ct h) (by kernel_rfl) (by rw[Mv];exact⟨rfl,cy [x0,x2,x3] (List.cons_ne_nil _ _)⟩)
theorem TL (x0 x1 x2 x3:aj):bH Tryz.prog 307 [.slice 0 0 4 4 false 7,.int .i64 2,.int .i64 3] (eD 7 fun m f=>bC m f (bp (fun j=>decide (j≠2)) (fun j=>[x0,x1,x2,x3].getD j default) 4)) (aU (.cells 28 [] (an (aM [x0,x1,x2,x3]) .leaf 0) false false)):=by
 rw[show bp (fun j=>decide (j≠2)) (fun j=>[x0,x1,x2,x3].getD j default) 4=[x0,x1,x3] by kernel_rfl]
 exact F307.cg (live:=fun _=>[]) (call:=ca) (fun h=>ct h) (by kernel_rfl) (by rw[Mw];exact⟨rfl,cy [x0,x1,x3] (List.cons_ne_nil _ _)⟩)
theorem TM (x0 x1 x2 x3:aj):bH Tryz.prog 307 [.slice 0 0 4 4 false 7,.int .i64 3,.int .i64 4] (eD 7 fun m f=>bC m f (bp (fun j=>decide (j≠3)) (fun j=>[x0,x1,x2,x3].getD j default) 4)) (aU (.cells 28 [] (an (aM [x0,x1,x2,x3]) .leaf 0) false false)):=by
 rw[show bp (fun j=>decide (j≠3)) (fun j=>[x0,x1,x2,x3].getD j default) 4=[x0,x1,x2] by kernel_rfl]
 exact F307.cg (live:=fun _=>[]) (call:=ca) (fun h=>ct h) (by kernel_rfl) (by rw[Mx];exact⟨rfl,cy [x0,x1,x2] (List.cons_ne_nil _ _)⟩)
theorem TN (x0 x1 x2 x3 x4:aj):bH Tryz.prog 307 [.slice 0 0 5 5 false 7,.int .i64 1,.int .i64 2] (eD 7 fun m f=>bC m f (bp (fun j=>decide (j≠1)) (fun j=>[x0,x1,x2,x3,x4].getD j default) 5)) (aU (.cells 35 [] (an (aM [x0,x1,x2,x3,x4]) .leaf 0) false false)):=by
 rw[show bp (fun j=>decide (j≠1)) (fun j=>[x0,x1,x2,x3,x4].getD j default) 5=[x0,x2,x3,x4] by kernel_rfl]
 exact F307.cg (live:=fun _=>[]) (call:=ca) (fun h=>ct h) (by kernel_rfl) (by rw[My];exact⟨rfl,cy [x0,x2,x3,x4] (List.cons_ne_nil _ _)⟩)
theorem TO (x0 x1 x2 x3 x4:aj):bH Tryz.prog 307 [.slice 0 0 5 5 false 7,.int .i64 2,.int .i64 3] (eD 7 fun m f=>bC m f (bp (fun j=>decide (j≠2)) (fun j=>[x0,x1,x2,x3,x4].getD j default) 5)) (aU (.cells 35 [] (an (aM [x0,x1,x2,x3,x4]) .leaf 0) false false)):=by
 rw[show bp (fun j=>decide (j≠2)) (fun j=>[x0,x1,x2,x3,x4].getD j default) 5=[x0,x1,x3,x4] by kernel_rfl]
 exact F307.cg (live:=fun _=>[]) (call:=ca) (fun h=>ct h) (by kernel_rfl) (by rw[Mz];exact⟨rfl,cy [x0,x1,x3,x4] (List.cons_ne_nil _ _)⟩)
theorem TP (x0 x1 x2 x3 x4:aj):bH Tryz.prog 307 [.slice 0 0 5 5 false 7,.int .i64 3,.int .i64 4] (eD 7 fun m f=>bC m f (bp (fun j=>decide (j≠3)) (fun j=>[x0,x1,x2,x3,x4].getD j default) 5)) (aU (.cells 35 [] (an (aM [x0,x1,x2,x3,x4]) .leaf 0) false false)):=by
 rw[show bp (fun j=>decide (j≠3)) (fun j=>[x0,x1,x2,x3,x4].getD j default) 5=[x0,x1,x2,x4] by kernel_rfl]
 exact F307.cg (live:=fun _=>[]) (call:=ca) (fun h=>ct h) (by kernel_rfl) (by rw[MA];exact⟨rfl,cy [x0,x1,x2,x4] (List.cons_ne_nil _ _)⟩)
theorem TQ (x0 x1 x2 x3 x4:aj):bH Tryz.prog 307 [.slice 0 0 5 5 false 7,.int .i64 4,.int .i64 5] (eD 7 fun m f=>bC m f (bp (fun j=>decide (j≠4)) (fun j=>[x0,x1,x2,x3,x4].getD j default) 5)) (aU (.cells 35 [] (an (aM [x0,x1,x2,x3,x4]) .leaf 0) false false)):=by
 rw[show bp (fun j=>decide (j≠4)) (fun j=>[x0,x1,x2,x3,x4].getD j default) 5=[x0,x1,x2,x3] by kernel_rfl]
 exact F307.cg (live:=fun _=>[]) (call:=ca) (fun h=>ct h) (by kernel_rfl) (by rw[MB];exact⟨rfl,cy [x0,x1,x2,x3] (List.cons_ne_nil _ _)⟩)
theorem TR (x0 x1 x2 x3 x4 x5:aj):bH Tryz.prog 307 [.slice 0 0 6 6 false 7,.int .i64 1,.int .i64 2] (eD 7 fun m f=>bC m f (bp (fun j=>decide (j≠1)) (fun j=>[x0,x1,x2,x3,x4,x5].getD j default) 6)) (aU (.cells 42 [] (an (aM [x0,x1,x2,x3,x4,x5]) .leaf 0) false false)):=by
 rw[show bp (fun j=>decide (j≠1)) (fun j=>[x0,x1,x2,x3,x4,x5].getD j default) 6=[x0,x2,x3,x4,x5] by kernel_rfl]
 exact F307.cg (live:=fun _=>[]) (call:=ca) (fun h=>ct h) (by kernel_rfl) (by rw[MC];exact⟨rfl,cy [x0,x2,x3,x4,x5] (List.cons_ne_nil _ _)⟩)
theorem TS (x0 x1 x2 x3 x4 x5:aj):bH Tryz.prog 307 [.slice 0 0 6 6 false 7,.int .i64 2,.int .i64 3] (eD 7 fun m f=>bC m f (bp (fun j=>decide (j≠2)) (fun j=>[x0,x1,x2,x3,x4,x5].getD j default) 6)) (aU (.cells 42 [] (an (aM [x0,x1,x2,x3,x4,x5]) .leaf 0) false false)):=by
 rw[show bp (fun j=>decide (j≠2)) (fun j=>[x0,x1,x2,x3,x4,x5].getD j default) 6=[x0,x1,x3,x4,x5] by kernel_rfl]
 exact F307.cg (live:=fun _=>[]) (call:=ca) (fun h=>ct h) (by kernel_rfl) (by rw[MD];exact⟨rfl,cy [x0,x1,x3,x4,x5] (List.cons_ne_nil _ _)⟩)
theorem TT (x0 x1 x2 x3 x4 x5:aj):bH Tryz.prog 307 [.slice 0 0 6 6 false 7,.int .i64 3,.int .i64 4] (eD 7 fun m f=>bC m f (bp (fun j=>decide (j≠3)) (fun j=>[x0,x1,x2,x3,x4,x5].getD j default) 6)) (aU (.cells 42 [] (an (aM [x0,x1,x2,x3,x4,x5]) .leaf 0) false false)):=by
 rw[show bp (fun j=>decide (j≠3)) (fun j=>[x0,x1,x2,x3,x4,x5].getD j default) 6=[x0,x1,x2,x4,x5] by kernel_rfl]
 exact F307.cg (live:=fun _=>[]) (call:=ca) (fun h=>ct h) (by kernel_rfl) (by rw[ME];exact⟨rfl,cy [x0,x1,x2,x4,x5] (List.cons_ne_nil _ _)⟩)
theorem TU (x0 x1 x2 x3 x4 x5:aj):bH Tryz.prog 307 [.slice 0 0 6 6 false 7,.int .i64 4,.int .i64 5] (eD 7 fun m f=>bC m f (bp (fun j=>decide (j≠4)) (fun j=>[x0,x1,x2,x3,x4,x5].getD j default) 6)) (aU (.cells 42 [] (an (aM [x0,x1,x2,x3,x4,x5]) .leaf 0) false false)):=by
 rw[show bp (fun j=>decide (j≠4)) (fun j=>[x0,x1,x2,x3,x4,x5].getD j default) 6=[x0,x1,x2,x3,x5] by kernel_rfl]
 exact F307.cg (live:=fun _=>[]) (call:=ca) (fun h=>ct h) (by kernel_rfl) (by rw[MF];exact⟨rfl,cy [x0,x1,x2,x3,x5] (List.cons_ne_nil _ _)⟩)
theorem TV (x0 x1 x2 x3 x4 x5:aj):bH Tryz.prog 307 [.slice 0 0 6 6 false 7,.int .i64 5,.int .i64 6] (eD 7 fun m f=>bC m f (bp (fun j=>decide (j≠5)) (fun j=>[x0,x1,x2,x3,x4,x5].getD j default) 6)) (aU (.cells 42 [] (an (aM [x0,x1,x2,x3,x4,x5]) .leaf 0) false false)):=by
 rw[show bp (fun j=>decide (j≠5)) (fun j=>[x0,x1,x2,x3,x4,x5].getD j default) 6=[x0,x1,x2,x3,x4] by kernel_rfl]
 exact F307.cg (live:=fun _=>[]) (call:=ca) (fun h=>ct h) (by kernel_rfl) (by rw[MG];exact⟨rfl,cy [x0,x1,x2,x3,x4] (List.cons_ne_nil _ _)⟩)
theorem TW (x0 x1 x2 x3 x4 x5 x6:aj):bH Tryz.prog 307 [.slice 0 0 7 7 false 7,.int .i64 1,.int .i64 2] (eD 7 fun m f=>bC m f (bp (fun j=>decide (j≠1)) (fun j=>[x0,x1,x2,x3,x4,x5,x6].getD j default) 7)) (aU (.cells 49 [] (an (aM [x0,x1,x2,x3,x4,x5,x6]) .leaf 0) false false)):=by
 rw[show bp (fun j=>decide (j≠1)) (fun j=>[x0,x1,x2,x3,x4,x5,x6].getD j default) 7=[x0,x2,x3,x4,x5,x6] by kernel_rfl]
 exact F307.cg (live:=fun _=>[]) (call:=ca) (fun h=>ct h) (by kernel_rfl) (by rw[MH];exact⟨rfl,cy [x0,x2,x3,x4,x5,x6] (List.cons_ne_nil _ _)⟩)
theorem TX (x0 x1 x2 x3 x4 x5 x6:aj):bH Tryz.prog 307 [.slice 0 0 7 7 false 7,.int .i64 2,.int .i64 3] (eD 7 fun m f=>bC m f (bp (fun j=>decide (j≠2)) (fun j=>[x0,x1,x2,x3,x4,x5,x6].getD j default) 7)) (aU (.cells 49 [] (an (aM [x0,x1,x2,x3,x4,x5,x6]) .leaf 0) false false)):=by
 rw[show bp (fun j=>decide (j≠2)) (fun j=>[x0,x1,x2,x3,x4,x5,x6].getD j default) 7=[x0,x1,x3,x4,x5,x6] by kernel_rfl]
 exact F307.cg (live:=fun _=>[]) (call:=ca) (fun h=>ct h) (by kernel_rfl) (by rw[MI];exact⟨rfl,cy [x0,x1,x3,x4,x5,x6] (List.cons_ne_nil _ _)⟩)
theorem TY (x0 x1 x2 x3 x4 x5 x6:aj):bH Tryz.prog 307 [.slice 0 0 7 7 false 7,.int .i64 3,.int .i64 4] (eD 7 fun m f=>bC m f (bp (fun j=>decide (j≠3)) (fun j=>[x0,x1,x2,x3,x4,x5,x6].getD j default) 7)) (aU (.cells 49 [] (an (aM [x0,x1,x2,x3,x4,x5,x6]) .leaf 0) false false)):=by
 rw[show bp (fun j=>decide (j≠3)) (fun j=>[x0,x1,x2,x3,x4,x5,x6].getD j default) 7=[x0,x1,x2,x4,x5,x6] by kernel_rfl]
 exact F307.cg (live:=fun _=>[]) (call:=ca) (fun h=>ct h) (by kernel_rfl) (by rw[MJ];exact⟨rfl,cy [x0,x1,x2,x4,x5,x6] (List.cons_ne_nil _ _)⟩)
theorem TZ (x0 x1 x2 x3 x4 x5 x6:aj):bH Tryz.prog 307 [.slice 0 0 7 7 false 7,.int .i64 4,.int .i64 5] (eD 7 fun m f=>bC m f (bp (fun j=>decide (j≠4)) (fun j=>[x0,x1,x2,x3,x4,x5,x6].getD j default) 7)) (aU (.cells 49 [] (an (aM [x0,x1,x2,x3,x4,x5,x6]) .leaf 0) false false)):=by
 rw[show bp (fun j=>decide (j≠4)) (fun j=>[x0,x1,x2,x3,x4,x5,x6].getD j default) 7=[x0,x1,x2,x3,x5,x6] by kernel_rfl]
 exact F307.cg (live:=fun _=>[]) (call:=ca) (fun h=>ct h) (by kernel_rfl) (by rw[MK];exact⟨rfl,cy [x0,x1,x2,x3,x5,x6] (List.cons_ne_nil _ _)⟩)
theorem T0 (x0 x1 x2 x3 x4 x5 x6:aj):bH Tryz.prog 307 [.slice 0 0 7 7 false 7,.int .i64 5,.int .i64 6] (eD 7 fun m f=>bC m f (bp (fun j=>decide (j≠5)) (fun j=>[x0,x1,x2,x3,x4,x5,x6].getD j default) 7)) (aU (.cells 49 [] (an (aM [x0,x1,x2,x3,x4,x5,x6]) .leaf 0) false false)):=by
 rw[show bp (fun j=>decide (j≠5)) (fun j=>[x0,x1,x2,x3,x4,x5,x6].getD j default) 7=[x0,x1,x2,x3,x4,x6] by kernel_rfl]
 exact F307.cg (live:=fun _=>[]) (call:=ca) (fun h=>ct h) (by kernel_rfl) (by rw[ML];exact⟨rfl,cy [x0,x1,x2,x3,x4,x6] (List.cons_ne_nil _ _)⟩)
theorem T1 (x0 x1 x2 x3 x4 x5 x6:aj):bH Tryz.prog 307 [.slice 0 0 7 7 false 7,.int .i64 6,.int .i64 7] (eD 7 fun m f=>bC m f (bp (fun j=>decide (j≠6)) (fun j=>[x0,x1,x2,x3,x4,x5,x6].getD j default) 7)) (aU (.cells 49 [] (an (aM [x0,x1,x2,x3,x4,x5,x6]) .leaf 0) false false)):=by
 rw[show bp (fun j=>decide (j≠6)) (fun j=>[x0,x1,x2,x3,x4,x5,x6].getD j default) 7=[x0,x1,x2,x3,x4,x5] by kernel_rfl]
 exact F307.cg (live:=fun _=>[]) (call:=ca) (fun h=>ct h) (by kernel_rfl) (by rw[MM];exact⟨rfl,cy [x0,x1,x2,x3,x4,x5] (List.cons_ne_nil _ _)⟩)
theorem T2 (x0 x1 x2 x3 x4 x5 x6 x7:aj):bH Tryz.prog 307 [.slice 0 0 8 8 false 7,.int .i64 1,.int .i64 2] (eD 7 fun m f=>bC m f (bp (fun j=>decide (j≠1)) (fun j=>[x0,x1,x2,x3,x4,x5,x6,x7].getD j default) 8)) (aU (.cells 56 [] (an (aM [x0,x1,x2,x3,x4,x5,x6,x7]) .leaf 0) false false)):=by
 rw[show bp (fun j=>decide (j≠1)) (fun j=>[x0,x1,x2,x3,x4,x5,x6,x7].getD j default) 8=[x0,x2,x3,x4,x5,x6,x7] by kernel_rfl]
 exact F307.cg (live:=fun _=>[]) (call:=ca) (fun h=>ct h) (by kernel_rfl) (by rw[MN];exact⟨rfl,cy [x0,x2,x3,x4,x5,x6,x7] (List.cons_ne_nil _ _)⟩)
theorem T3 (x0 x1 x2 x3 x4 x5 x6 x7:aj):bH Tryz.prog 307 [.slice 0 0 8 8 false 7,.int .i64 2,.int .i64 3] (eD 7 fun m f=>bC m f (bp (fun j=>decide (j≠2)) (fun j=>[x0,x1,x2,x3,x4,x5,x6,x7].getD j default) 8)) (aU (.cells 56 [] (an (aM [x0,x1,x2,x3,x4,x5,x6,x7]) .leaf 0) false false)):=by
 rw[show bp (fun j=>decide (j≠2)) (fun j=>[x0,x1,x2,x3,x4,x5,x6,x7].getD j default) 8=[x0,x1,x3,x4,x5,x6,x7] by kernel_rfl]
 exact F307.cg (live:=fun _=>[]) (call:=ca) (fun h=>ct h) (by kernel_rfl) (by rw[MO];exact⟨rfl,cy [x0,x1,x3,x4,x5,x6,x7] (List.cons_ne_nil _ _)⟩)
theorem T4 (x0 x1 x2 x3 x4 x5 x6 x7:aj):bH Tryz.prog 307 [.slice 0 0 8 8 false 7,.int .i64 3,.int .i64 4] (eD 7 fun m f=>bC m f (bp (fun j=>decide (j≠3)) (fun j=>[x0,x1,x2,x3,x4,x5,x6,x7].getD j default) 8)) (aU (.cells 56 [] (an (aM [x0,x1,x2,x3,x4,x5,x6,x7]) .leaf 0) false false)):=by
 rw[show bp (fun j=>decide (j≠3)) (fun j=>[x0,x1,x2,x3,x4,x5,x6,x7].getD j default) 8=[x0,x1,x2,x4,x5,x6,x7] by kernel_rfl]
 exact F307.cg (live:=fun _=>[]) (call:=ca) (fun h=>ct h) (by kernel_rfl) (by rw[MP];exact⟨rfl,cy [x0,x1,x2,x4,x5,x6,x7] (List.cons_ne_nil _ _)⟩)
theorem T5 (x0 x1 x2 x3 x4 x5 x6 x7:aj):bH Tryz.prog 307 [.slice 0 0 8 8 false 7,.int .i64 4,.int .i64 5] (eD 7 fun m f=>bC m f (bp (fun j=>decide (j≠4)) (fun j=>[x0,x1,x2,x3,x4,x5,x6,x7].getD j default) 8)) (aU (.cells 56 [] (an (aM [x0,x1,x2,x3,x4,x5,x6,x7]) .leaf 0) false false)):=by
 rw[show bp (fun j=>decide (j≠4)) (fun j=>[x0,x1,x2,x3,x4,x5,x6,x7].getD j default) 8=[x0,x1,x2,x3,x5,x6,x7] by kernel_rfl]
 exact F307.cg (live:=fun _=>[]) (call:=ca) (fun h=>ct h) (by kernel_rfl) (by rw[MQ];exact⟨rfl,cy [x0,x1,x2,x3,x5,x6,x7] (List.cons_ne_nil _ _)⟩)
theorem T6 (x0 x1 x2 x3 x4 x5 x6 x7:aj):bH Tryz.prog 307 [.slice 0 0 8 8 false 7,.int .i64 5,.int .i64 6] (eD 7 fun m f=>bC m f (bp (fun j=>decide (j≠5)) (fun j=>[x0,x1,x2,x3,x4,x5,x6,x7].getD j default) 8)) (aU (.cells 56 [] (an (aM [x0,x1,x2,x3,x4,x5,x6,x7]) .leaf 0) false false)):=by
 rw[show bp (fun j=>decide (j≠5)) (fun j=>[x0,x1,x2,x3,x4,x5,x6,x7].getD j default) 8=[x0,x1,x2,x3,x4,x6,x7] by kernel_rfl]
 exact F307.cg (live:=fun _=>[]) (call:=ca) (fun h=>ct h) (by kernel_rfl) (by rw[MR];exact⟨rfl,cy [x0,x1,x2,x3,x4,x6,x7] (List.cons_ne_nil _ _)⟩)
theorem T7 (x0 x1 x2 x3 x4 x5 x6 x7:aj):bH Tryz.prog 307 [.slice 0 0 8 8 false 7,.int .i64 6,.int .i64 7] (eD 7 fun m f=>bC m f (bp (fun j=>decide (j≠6)) (fun j=>[x0,x1,x2,x3,x4,x5,x6,x7].getD j default) 8)) (aU (.cells 56 [] (an (aM [x0,x1,x2,x3,x4,x5,x6,x7]) .leaf 0) false false)):=by
 rw[show bp (fun j=>decide (j≠6)) (fun j=>[x0,x1,x2,x3,x4,x5,x6,x7].getD j default) 8=[x0,x1,x2,x3,x4,x5,x7] by kernel_rfl]
 exact F307.cg (live:=fun _=>[]) (call:=ca) (fun h=>ct h) (by kernel_rfl) (by rw[MS];exact⟨rfl,cy [x0,x1,x2,x3,x4,x5,x7] (List.cons_ne_nil _ _)⟩)
theorem T8 (x0 x1 x2 x3 x4 x5 x6 x7:aj):bH Tryz.prog 307 [.slice 0 0 8 8 false 7,.int .i64 7,.int .i64 8] (eD 7 fun m f=>bC m f (bp (fun j=>decide (j≠7)) (fun j=>[x0,x1,x2,x3,x4,x5,x6,x7].getD j default) 8)) (aU (.cells 56 [] (an (aM [x0,x1,x2,x3,x4,x5,x6,x7]) .leaf 0) false false)):=by
 rw[show bp (fun j=>decide (j≠7)) (fun j=>[x0,x1,x2,x3,x4,x5,x6,x7].getD j default) 8=[x0,x1,x2,x3,x4,x5,x6] by kernel_rfl]
 exact F307.cg (live:=fun _=>[]) (call:=ca) (fun h=>ct h) (by kernel_rfl) (by rw[MT];exact⟨rfl,cy [x0,x1,x2,x3,x4,x5,x6] (List.cons_ne_nil _ _)⟩)
theorem MX:∀(l:List aj) (i:Nat),0<i→i<l.length→l.length≤8→bH Tryz.prog 307 [.slice 0 0 l.length l.length false 7,.int .i64 (i:Int),.int .i64 ((i:Int)+1)] (eD 7 fun m f=>bC m f (bp (fun j=>decide (j≠i)) (fun j=>l.getD j default) l.length)) (aU (.cells (l.length*7) [] (an (aM l) .leaf 0) false false))
 | [],_,_,h,_=>absurd h (Nat.not_lt_zero _)
 | [_],i,h0,h,_=>absurd (show i<1 from h) (by omega)
 | [x0,x1],i,h0,h,_=>by
  replace h:i<2:=h
  rcases(show i=1 by omega) with rfl
  ·exact TG x0 x1
 | [x0,x1,x2],i,h0,h,_=>by
  replace h:i<3:=h
  rcases(show i=1∨i=2 by omega) with rfl | rfl
  ·exact TH x0 x1 x2
  ·exact TJ x0 x1 x2
 | [x0,x1,x2,x3],i,h0,h,_=>by
  replace h:i<4:=h
  rcases(show i=1∨i=2∨i=3 by omega) with rfl | rfl | rfl
  ·exact TK x0 x1 x2 x3
  ·exact TL x0 x1 x2 x3
  ·exact TM x0 x1 x2 x3
 | [x0,x1,x2,x3,x4],i,h0,h,_=>by
  replace h:i<5:=h
  rcases(show i=1∨i=2∨i=3∨i=4 by omega) with rfl | rfl | rfl | rfl
  ·exact TN x0 x1 x2 x3 x4
  ·exact TO x0 x1 x2 x3 x4
  ·exact TP x0 x1 x2 x3 x4
  ·exact TQ x0 x1 x2 x3 x4
 | [x0,x1,x2,x3,x4,x5],i,h0,h,_=>by
  replace h:i<6:=h
  rcases(show i=1∨i=2∨i=3∨i=4∨i=5 by omega) with rfl | rfl | rfl | rfl | rfl
  ·exact TR x0 x1 x2 x3 x4 x5
  ·exact TS x0 x1 x2 x3 x4 x5
  ·exact TT x0 x1 x2 x3 x4 x5
  ·exact TU x0 x1 x2 x3 x4 x5
  ·exact TV x0 x1 x2 x3 x4 x5
 | [x0,x1,x2,x3,x4,x5,x6],i,h0,h,_=>by
  replace h:i<7:=h
  rcases(show i=1∨i=2∨i=3∨i=4∨i=5∨i=6 by omega) with rfl | rfl | rfl | rfl | rfl | rfl
  ·exact TW x0 x1 x2 x3 x4 x5 x6
  ·exact TX x0 x1 x2 x3 x4 x5 x6
  ·exact TY x0 x1 x2 x3 x4 x5 x6
  ·exact TZ x0 x1 x2 x3 x4 x5 x6
  ·exact T0 x0 x1 x2 x3 x4 x5 x6
  ·exact T1 x0 x1 x2 x3 x4 x5 x6
 | [x0,x1,x2,x3,x4,x5,x6,x7],i,h0,h,_=>by
  replace h:i<8:=h
  rcases(show i=1∨i=2∨i=3∨i=4∨i=5∨i=6∨i=7 by omega) with rfl | rfl | rfl | rfl | rfl | rfl | rfl
  ·exact T2 x0 x1 x2 x3 x4 x5 x6 x7
  ·exact T3 x0 x1 x2 x3 x4 x5 x6 x7
  ·exact T4 x0 x1 x2 x3 x4 x5 x6 x7
  ·exact T5 x0 x1 x2 x3 x4 x5 x6 x7
  ·exact T6 x0 x1 x2 x3 x4 x5 x6 x7
  ·exact T7 x0 x1 x2 x3 x4 x5 x6 x7
  ·exact T8 x0 x1 x2 x3 x4 x5 x6 x7
 | _::_::_::_::_::_::_::_::_::r,_,_,_,h=>absurd (show r.length+9≤8 from h) (by omega)
theorem P1 (h:MU vs σ k):ag Tryz.prog 307 vs k σ:=by
 unfold MU at h
 split at h
 ·rename_i b n x y
  obtain⟨l,i,⟨rfl,rfl,rfl⟩,hb,⟨h0,hi,h8⟩,h⟩:=h
  exact ag.Z8 (es:=aM l) hb (fun j hj=>rfl) (fun j hj=>aj.clean _) (by rw[wP,lJ aj.enc l]) (aw (Go.Ev.Clean.int _ _) (aw (Go.Ev.Clean.int _ _) cw)) (MX l i h0 hi h8) h
 ·exact h.elim
theorem FM:∀ {f:FuncId} {vs:List V} {σ:St} {k:ah},HW f vs σ k→ag Tryz.prog f vs k σ:=fun h=>aR P1 ct h
theorem P2 (h:To vs σ k):ag Tryz.prog 304 vs k σ:=by
 obtain⟨e,rfl,dq,h⟩:=h
 refine ag.eJ (aA e.aG bm) (.int _ _) (F304.flat (live:=Fz) (call:=HW) (n₀:=0) (σ:=Go.Ev.start) (fun h=>FM h) rfl (by kernel_rfl) ?_) h
 rw[aad]
 exact⟨e,rfl,dq,fun h=>by rw[h],fun _=>rfl⟩
theorem FN:∀ {f:FuncId} {vs:List V} {σ:St} {k:ah},CB f vs σ k→ag Tryz.prog f vs k σ:=fun h=>aR P2 FM h
def aar (l:List Int):Nat→List SV→Prop
 | 0,ss=>∃i:Nat,i≤l.length∧(∀j,j<i→l.getD j default=0)∧ss=[.val (.int .i64 (0:Int)),.val (af (V.int .i64) 1 l),.val (.int .i64 ((l.length:Nat):Int)),.val (.int .i64 (i:Int))]
 | _,_=>False
omit [aE] in
theorem P3 (l:List Int):Go.Ev.Clean (af (V.int .i64) 1 l):=dh fun x _=>aw (Go.Ev.Clean.int _ _) cw
theorem P4 (h:Tp vs σ k):ag Tryz.prog 312 vs k σ:=by
 obtain⟨l,hf,hn,h⟩:=h
 refine ag.eJ hf (.int _ _) (F312.cG (live:=zk) (call:=CB) (n₀:=0) (σ:=Go.Ev.start) (fun h=>FN h) rfl 1 (by kernel_rfl) Nat.lt_wfRel.wf (fun _ ss=>l.length-cF ss) (aar l) ?_ ?_ ?_) h
 ·intro k ss hI
  cases k with
  | zero=>obtain⟨i,_,_,rfl⟩:=hI;exact aF (ax (P3 l) (aF (aF bW)))
  | succ k=>exact hI.elim
 ·rw[aae]
  exact⟨0,by omega,fun j hj=>absurd hj (Nat.not_lt_zero j),rfl⟩
 ·intro k hk ss hI
  obtain rfl:k=0:=by omega
  obtain⟨i,hi,hj,rfl⟩:=hI
  rw[aaf]
  refine⟨rfl,av (fun h1=>⟨⟨by omega,by omega⟩,rfl,av (fun h2=>?_) fun h2=>?_⟩) fun h1=>?_⟩
  ·rw[eu] at h2⊢
   show _=V.int .i64 (cZ _ _)
   rw[jC (fun i=>l.getD i default) l.length i (by omega) h2 hj]
  ·rw[eu] at h2
   rw[i64_in ((i:Int)+1) (by omega)]
   refine⟨⟨i+1,by omega,fun j jg=>?_,rfl⟩,?_⟩
   ·by_cases e:j=i
    ·subst e;exact Decidable.not_not.1 h2
    ·exact hj j (by omega)
   ·show l.length-((i:Int)+1).toNat<l.length-(i:Int).toNat
    omega
  ·obtain rfl:i=l.length:=by omega
   show _=V.int .i64 (cZ _ _)
   rw[(cm (fun i=>l.getD i default) l.length).2 hj]
theorem FO:∀ {f:FuncId} {vs:List V} {σ:St} {k:ah},CC f vs σ k→ag Tryz.prog f vs k σ:=fun h=>aR P4 FN h
def aas (l m:List aj):Nat→List SV→Prop
 | 0,ss=>∃i:Nat,(l.length=m.length∧∀j,j<i→l.getD j default=m.getD j default)∧i≤l.length∧ss=[.val (af aj.enc 7 l),.val (af aj.enc 7 m),.val (.int .i64 ((l.length:Nat):Int)),.val (.int .i64 (i:Int))]
 | _,_=>False
omit [Env] [aE] in
theorem aj.vk {x y:aj} (h0:x.f0=y.f0) (h1:x.f1=y.f1) (h2:x.f2=y.f2) (h3:x.f3=y.f3):x=y:=by
 cases x;cases y;simp only at h0 h1 h2 h3;subst h0;subst h1;subst h2;subst h3;rfl
theorem P5 (h:Tq vs σ k):ag Tryz.prog 154 vs k σ:=by
 obtain⟨l,m,rfl,hs,h⟩:=h
 refine ag.aU (A:=fL (l=m)) (aA (e6 l) (aA (e6 m) bm)) fL.fY (F154.cG (live:=zl) (call:=CC) (n₀:=0) (σ:=Go.Ev.start) (fun h=>FO h) rfl 1 (by kernel_rfl) Nat.lt_wfRel.wf (fun _ ss=>l.length-cF ss) (aas l m) ?_ ?_ ?_) fun v ⟨b,hb,e⟩=>by subst e;exact h b hb
 ·intro k ss hI
  cases k with
  | zero=>obtain⟨i,_,_,rfl⟩:=hI;exact ax (e6 l) (ax (e6 m) (aF (aF bW)))
  | succ k=>exact hI.elim
 ·rw[aag]
  refine⟨rfl,av (fun h1=>iQ fun e=>h1 (by rw[e])) fun h1=>⟨0,⟨by omega,fun j hj=>absurd hj (Nat.not_lt_zero j)⟩,by omega,rfl⟩⟩
 ·intro k hk ss hI
  obtain rfl:k=0:=by omega
  obtain⟨i,⟨hl,cR⟩,hi,rfl⟩:=hI
  rw[aah]
  refine⟨rfl,av (fun h1=>⟨⟨by omega,by omega⟩,⟨by omega,by omega⟩,?_⟩) fun h1=>AU (wN hl fun j hj=>cR j (by omega))⟩
  rw[eu]
  have bad:∀ {p:Prop},(l.getD i default=m.getD i default→p)→¬p→fL (l=m) (.bool false):=fun h1 h2=>iQ fun e=>h2 (h1 (by rw[e]))
  refine av (fun g0=>⟨rfl,av (fun g1=>ae.mk (fun g2=>⟨rfl,av (fun g3=>⟨rfl,av (fun g4=>⟨rfl,av (fun g5=>av (fun g6=>?_) fun g=>bad (fun e=>by rw[e]) g) fun g=>bad (fun e=>by rw[e]) g⟩) fun g=>bad (fun e=>by rw[e]) g⟩) fun g=>bad (fun e=>by rw[e]) g⟩) fun g=>bad (p:=(l.getD i default).f2=(m.getD i default).f2) (fun e=>by rw[e]) (by simpa using g)) fun g=>bad (fun e=>by rw[e]) g⟩) fun g=>bad (fun e=>by rw[e]) g
  rw[i64_in ((i:Int)+1) (by omega)]
  refine⟨⟨i+1,⟨hl,fun j hj=>?_⟩,by omega,rfl⟩,?_⟩
  ·by_cases ej:j=i
   ·subst ej;exact aj.vk g0 g1 (by simpa using g2) (ay.vk g3 g4 g5 g6)
   ·exact cR j (by omega)
  ·show l.length-((i:Int)+1).toNat<l.length-(i:Int).toNat
   omega
theorem FP:∀ {f:FuncId} {vs:List V} {σ:St} {k:ah},HX f vs σ k→ag Tryz.prog f vs k σ:=fun h=>aR P5 FO h
omit [aE] in
theorem eK (l:List (List UInt8)):Go.Ev.Clean (af V.str 1 l):=dh fun x _=>aw (Go.Ev.Clean.str _) cw
theorem P6 (h:Tr vs σ k):ag Tryz.prog 301 vs k σ:=by
 obtain⟨t,e,hf,h1,h2⟩:=h
 refine ag.mj hf (F301.cg (live:=FA) (call:=HX) (fun h=>FP h) (by kernel_rfl) ?_)
 rw[aai]
 refine⟨rfl,av (fun h3=>bk.ic (.tuple (.cons .ai (.cons (.int _ _) .nil))) (h2 h3)) fun h3=>bk.pair (b:=1) (n:=1) (esz:=3) (g:=fun i=>aa.enc ([t].getD i default)) (.slice (p:=true) (by rfl) (.inl ⟨rfl,by omega⟩) (fun _ _=>rfl) fun i hi=>?_) (.int _ _) (h1 (Decidable.not_not.1 h3))⟩
 obtain rfl:=Nat.lt_one_iff.1 hi
 exact⟨_,by rfl,jP (aa.clean t)⟩
theorem FQ:∀ {f:FuncId} {vs:List V} {σ:St} {k:ah},HY f vs σ k→ag Tryz.prog f vs k σ:=fun h=>aR P6 FP h
end
end Go.Proofs.YtbajncpfmemdgaaGreatDoor
end
section
namespace Go.Proofs.YtbajncpfmemdgaaGreatDoor
open Go Go.Ev Go.IntWalk
section
variable [Env]
theorem Kt {τ:St}:dQ τ .ai (af V.str 1 []):=.jM (.empty _ _)
theorem yg {τ:St} {b m:Nat} {ex:Bool} {s:List UInt8} (h:τ.cells b 0 (1*1)=some [.str s]):dQ τ (.slice b 0 1 m ex 1) (af V.str 1 [s]):=
 .jM (.slice (es:=[.str s]) h (.cons (.str _) .nil) (fun v hv=>by rw[List.mem_singleton.1 hv];rfl) rfl)
theorem T9 {τ:St} {b m:Nat} {ex:Bool} {s t:List UInt8} (h:τ.cells b 0 (2*1)=some [.str s,.str t]):dQ τ (.slice b 0 2 m ex 1) (af V.str 1 [s,t]):=
 .jM (.slice (es:=[.str s,.str t]) h (.cons (.str _) (.cons (.str _) .nil)) (fun v hv=>by
  rcases List.mem_cons.1 hv with rfl | hv
  ·rfl
  ·rw[List.mem_singleton.1 hv];rfl) rfl)
variable [aE] {vs:List V} {σ:St} {k:ah}
theorem P7 (h:Ts vs σ k):ag Tryz.prog 299 vs k σ:=by
 obtain⟨c,rfl,h⟩:=h
 refine ag.aJ (aA c.aG bm) (F299.cg (live:=FB) (call:=HY) (fun h=>FQ h) (by kernel_rfl) ?_)
 rw[aaj]
 exact bk.ic Kt h
theorem FR:∀ {f:FuncId} {vs:List V} {σ:St} {k:ah},HZ f vs σ k→ag Tryz.prog f vs k σ:=fun h=>aR P7 FQ h
theorem P8 (h:Tt vs σ k):ag Tryz.prog 302 vs k σ:=by
 obtain⟨c,rfl,h⟩:=h
 refine ag.aJ (aA c.aG bm) (F302.cg (live:=FC) (call:=HZ) (fun h=>FR h) (by kernel_rfl) ?_)
 rw[aak]
 exact bk.ic (yg (by rfl)) h
theorem FT:∀ {f:FuncId} {vs:List V} {σ:St} {k:ah},H0 f vs σ k→ag Tryz.prog f vs k σ:=fun h=>aR P8 FR h
theorem P9 (h:Tu vs σ k):ag Tryz.prog 305 vs k σ:=by
 obtain⟨c,rfl,h⟩:=h
 refine ag.aJ (aA c.aG bm) (F305.cg (live:=FD) (call:=H0) (fun h=>FT h) (by kernel_rfl) ?_)
 rw[aal]
 exact bk.ic (yg (by rfl)) h
theorem FU:∀ {f:FuncId} {vs:List V} {σ:St} {k:ah},H2 f vs σ k→ag Tryz.prog f vs k σ:=fun h=>aR P9 FT h
theorem Qa (h:Tv vs σ k):ag Tryz.prog 308 vs k σ:=by
 obtain⟨c,rfl,h⟩:=h
 refine ag.aJ (aA c.aG bm) (F308.cg (live:=FE) (call:=H2) (fun h=>FU h) (by kernel_rfl) ?_)
 rw[aam]
 exact bk.ic (yg (by rfl)) h
theorem FV:∀ {f:FuncId} {vs:List V} {σ:St} {k:ah},H3 f vs σ k→ag Tryz.prog f vs k σ:=fun h=>aR Qa FU h
theorem Qb (h:Tw vs σ k):ag Tryz.prog 310 vs k σ:=by
 obtain⟨c,rfl,h⟩:=h
 refine ag.aJ (aA c.aG bm) (F310.cg (live:=FF) (call:=H3) (fun h=>FV h) (by kernel_rfl) ?_)
 rw[aan]
 exact bk.ic (yg (by rfl)) h
theorem FW:∀ {f:FuncId} {vs:List V} {σ:St} {k:ah},H4 f vs σ k→ag Tryz.prog f vs k σ:=fun h=>aR Qb FV h
theorem Qc (h:Tx vs σ k):ag Tryz.prog 313 vs k σ:=by
 obtain⟨c,rfl,h⟩:=h
 refine ag.aJ (aA c.aG bm) (F313.cg (live:=FG) (call:=H4) (fun h=>FW h) (by kernel_rfl) ?_)
 rw[aao]
 exact bk.ic (T9 (by rfl)) h
theorem FX:∀ {f:FuncId} {vs:List V} {σ:St} {k:ah},H5 f vs σ k→ag Tryz.prog f vs k σ:=fun h=>aR Qc FW h
theorem Ua (h:Yn vs σ k):ag Tryz.prog 71 vs k σ:=by
 obtain⟨c,rfl,h1,h2,h3,h4,h5,h6,h7⟩:=h
 refine ag.aJ (aA c.aG bm) (F71.cg (live:=Kp) (call:=H5) (fun h=>FX h) (by kernel_rfl) ?_)
 rw[e71]
 refine⟨rfl,av (fun h=>bk.ic (.iface (.clean c.aG)) (h1 h)) fun g1=>⟨rfl,av (fun h=>bk.ic (.iface (.clean c.aG)) (h2 h)) fun g2=>⟨rfl,av (fun h=>bk.ic (.iface (.clean c.aG)) (h3 h)) fun g3=>
  ⟨rfl,av (fun h=>bk.ic (.iface (.clean c.aG)) (h4 h)) fun g4=>⟨rfl,av (fun h=>bk.ic (.iface (.clean c.aG)) (h5 h)) fun g5=>⟨rfl,av (fun h=>bk.ic (.iface (.clean c.aG)) (h6 h)) fun g6=>bk.ic .aW (h7 (by omega))⟩⟩⟩⟩⟩⟩
theorem FY:∀ {f:FuncId} {vs:List V} {σ:St} {k:ah},sg f vs σ k→ag Tryz.prog f vs k σ:=fun h=>aR Ua FX h
set_option maxRecDepth 100000 in
theorem Ub (h:Ty vs σ k):ag Tryz.prog 72 vs k σ:=by
 unfold Ty at h
 split at h
 ·rename_i t v
  obtain⟨c,hv,ht,h⟩:=h
  obtain rfl:v=ak.enc c:=by cases hv;rfl
  refine ag.eJ (aA (Go.Ev.Clean.iface c.aG) bm) (.bool _) (F72.flat (live:=oR) (call:=sg) (n₀:=0) (σ:=Go.Ev.start) (fun h=>FY h) rfl (by kernel_rfl) ?_) h
  rcases ht with rfl | rfl | rfl | rfl | rfl | rfl
  ·rw[V2];rfl
  ·rw[V3];rfl
  ·rw[V4];rfl
  ·rw[V5];rfl
  ·rw[V6];rfl
  ·rw[V7];rfl
 ·exact h.elim
theorem FZ:∀ {f:FuncId} {vs:List V} {σ:St} {k:ah},H6 f vs σ k→ag Tryz.prog f vs k σ:=fun h=>aR Ub FY h
omit [Env] [aE] in
theorem Ku {c:ak} (h:c.f0=1):aQ c=[]:=by
 have h6:¬c.f0=6:=by omega
 have h7:¬(2≤c.f0∧c.f0≤5):=by omega
 unfold aQ;rw[if_neg h6,if_neg h7]
omit [Env] [aE] in
theorem Uc {c:ak} (h:c.f0<1∨6<c.f0):aQ c=[]:=by
 have h6:¬c.f0=6:=by omega
 have h7:¬(2≤c.f0∧c.f0≤5):=by omega
 unfold aQ;rw[if_neg h6,if_neg h7]
omit [Env] [aE] in
theorem im {c:ak} (h:2≤c.f0∧c.f0≤5):aQ c=[c.f1]:=by
 have h6:¬c.f0=6:=by omega
 unfold aQ;rw[if_neg h6,if_pos h]
omit [Env] [aE] in
theorem qX {c:ak} (h:c.f0=6):aQ c=[c.f1,c.f2]:=by unfold aQ;rw[if_pos h]
omit [aE] in
theorem vm {c:ak} {l:List (List UInt8)} {τ:St} (h:k (af V.str 1 (aQ c)) σ) (hl:aQ c=l):bk σ k (af V.str 1 l) τ:=bk.ic (.clean (eK l)) (by rw[←hl];exact h)
theorem Ud (h:Yo vs σ k):ag Tryz.prog 34 vs k σ:=by
 obtain⟨c,rfl,h⟩:=h
 refine ag.aJ (aA c.aG bm) (F34.cg (live:=Kq) (call:=H6) (fun h=>FZ h) (by kernel_rfl) ?_)
 rw[e34]
 exact⟨c,rfl,fun g=>⟨c,rfl,vm h (Ku g)⟩,fun g=>⟨c,rfl,vm h (im (by omega))⟩,fun g=>⟨c,rfl,vm h (im (by omega))⟩,fun g=>⟨c,rfl,vm h (im (by omega))⟩,fun g=>⟨c,rfl,vm h (im (by omega))⟩,fun g=>⟨c,rfl,vm h (qX g)⟩,fun g=>bk.ic Kt (by rw[←Uc g];exact h)⟩
theorem F0:∀ {f:FuncId} {vs:List V} {σ:St} {k:ah},H7 f vs σ k→ag Tryz.prog f vs k σ:=fun h=>aR Ud FZ h
end
end Go.Proofs.YtbajncpfmemdgaaGreatDoor
end
