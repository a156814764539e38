/- Proved: parts of the way: BEq17, BC6, Give. -/
import Derived.Test.YtbajncpfmemdgaaGreatDoorEvQ19
import Derived.Test.YtbajncpfmemdgaaGreatDoorEvQ15
set_option linter.unusedVariables false
set_option linter.unusedSimpArgs false
section
namespace Go.Proofs.YtbajncpfmemdgaaGreatDoor
open Go Go.Ev
def Ja:Nat→List Nat:=(fun _=>[])
theorem ag2 [Env] (A:Nat→List SV→Prop) (Q:V→Prop) (x y:aC):WE Tryz.prog 212 Tryz.f212 LL 0 Ja A (fun v _=>Q v) [aC.enc x,aC.enc y] Go.Ev.start=
  (((.i64:IntKind)=.i64∧aa (decide (x.f0=y.f0)) (((.i64:IntKind)=.i64∧aa (decide (x.f1=y.f1)) (((.u64:IntKind)=.u64∧aa (decide (x.f2=y.f2)) (aa (decide (x.f3=y.f3)) (Q (.bool true)) (Q (.bool false))) (Q (.bool false)))) (Q (.bool false)))) (Q (.bool false)))):=by kernel_rfl
def YD [Env] (vs:List V) (σ:St) (k:ai):Prop:=
 ∃x y:aC,vs=[aC.enc x,aC.enc y]∧∀b:Bool,(b=true↔x=y)→k (.bool b) σ
def xQ [Env]:=kS 212 YD LL
def rO:Nat→List Nat:=(fun _=>[])
abbrev YE [Env] (A:Nat→List SV→Prop) (Q:V→Prop) (a b:List UInt8) (c d:Int) (u v:aC):Prop:=
 (aa ((false==false)==true) (aa ((false==false)==true) (aa ((false==false)==true) ((∃b0 b1:aC,[.tuple [],.agg [.int .i64 v.f0,.int .i64 v.f1,.int .u64 v.f2,.str v.f3]]=[aC.enc b0,aC.enc b1]∧∀b2:Bool,(b2=true↔b0=b1)→aa (false==false) (Q (.bool b2)) (Q (.bool false)))) (aa (false==false) (Q (.tuple [])) (Q (.bool false)))) (aa ((false==false)==true) ((∃b3 b4:aC,[.tuple [],.tuple []]=[aC.enc b3,aC.enc b4]∧∀b5:Bool,(b5=true↔b3=b4)→aa (false==false) (Q (.bool b5)) (Q (.bool false)))) (aa (false==false) (Q (.tuple [])) (Q (.bool false))))) (aa ((false==false)==true) False (aa ((false==false)==true) ((∃b6 b7:aC,[.tuple [],.tuple []]=[aC.enc b6,aC.enc b7]∧∀b8:Bool,(b8=true↔b6=b7)→aa (false==false) (Q (.bool b8)) (Q (.bool false)))) (aa (false==false) (Q (.tuple [])) (Q (.bool false))))))
abbrev YF [Env] (A:Nat→List SV→Prop) (Q:V→Prop) (a b:List UInt8) (c d:Int) (u v:aC):Prop:=
 (aa ((false==true)==true) (aa ((false==true)==true) (aa ((false==true)==true) ((∃b0 b1:aC,[.tuple [],.agg [.int .i64 v.f0,.int .i64 v.f1,.int .u64 v.f2,.str v.f3]]=[aC.enc b0,aC.enc b1]∧∀b2:Bool,(b2=true↔b0=b1)→aa (false==true) (Q (.bool b2)) (Q (.bool false)))) (aa (false==true) (Q (.tuple [])) (Q (.bool false)))) (aa ((false==true)==true) ((∃b3 b4:aC,[.tuple [],.tuple []]=[aC.enc b3,aC.enc b4]∧∀b5:Bool,(b5=true↔b3=b4)→aa (false==true) (Q (.bool b5)) (Q (.bool false)))) (aa (false==true) (Q (.tuple [])) (Q (.bool false))))) (aa ((false==true)==true) False (aa ((false==true)==true) ((∃b6 b7:aC,[.tuple [],.tuple []]=[aC.enc b6,aC.enc b7]∧∀b8:Bool,(b8=true↔b6=b7)→aa (false==true) (Q (.bool b8)) (Q (.bool false)))) (aa (false==true) (Q (.tuple [])) (Q (.bool false))))))
abbrev YG [Env] (A:Nat→List SV→Prop) (Q:V→Prop) (a b:List UInt8) (c d:Int) (u v:aC):Prop:=
 (aa ((true==false)==true) (aa ((true==false)==true) (aa ((true==false)==true) ((∃b0 b1:aC,[.tuple [],.agg [.int .i64 v.f0,.int .i64 v.f1,.int .u64 v.f2,.str v.f3]]=[aC.enc b0,aC.enc b1]∧∀b2:Bool,(b2=true↔b0=b1)→aa (true==false) (Q (.bool b2)) (Q (.bool false)))) (aa (true==false) (Q (.tuple [])) (Q (.bool false)))) (aa ((true==false)==true) ((∃b3 b4:aC,[.tuple [],.tuple []]=[aC.enc b3,aC.enc b4]∧∀b5:Bool,(b5=true↔b3=b4)→aa (true==false) (Q (.bool b5)) (Q (.bool false)))) (aa (true==false) (Q (.tuple [])) (Q (.bool false))))) (aa ((true==false)==true) False (aa ((true==false)==true) ((∃b6 b7:aC,[.tuple [],.tuple []]=[aC.enc b6,aC.enc b7]∧∀b8:Bool,(b8=true↔b6=b7)→aa (true==false) (Q (.bool b8)) (Q (.bool false)))) (aa (true==false) (Q (.tuple [])) (Q (.bool false))))))
abbrev YH [Env] (A:Nat→List SV→Prop) (Q:V→Prop) (a b:List UInt8) (c d:Int) (u v:aC):Prop:=
 (aa ((true==true)==true) (aa ((true==true)==true) (aa ((true==true)==true) ((∃b0 b1:aC,[.tuple [],.agg [.int .i64 v.f0,.int .i64 v.f1,.int .u64 v.f2,.str v.f3]]=[aC.enc b0,aC.enc b1]∧∀b2:Bool,(b2=true↔b0=b1)→aa (true==true) (Q (.bool b2)) (Q (.bool false)))) (aa (true==true) (Q (.tuple [])) (Q (.bool false)))) (aa ((true==true)==true) ((∃b3 b4:aC,[.tuple [],.tuple []]=[aC.enc b3,aC.enc b4]∧∀b5:Bool,(b5=true↔b3=b4)→aa (true==true) (Q (.bool b5)) (Q (.bool false)))) (aa (true==true) (Q (.tuple [])) (Q (.bool false))))) (aa ((true==true)==true) False (aa ((true==true)==true) ((∃b6 b7:aC,[.tuple [],.tuple []]=[aC.enc b6,aC.enc b7]∧∀b8:Bool,(b8=true↔b6=b7)→aa (true==true) (Q (.bool b8)) (Q (.bool false)))) (aa (true==true) (Q (.tuple [])) (Q (.bool false))))))
abbrev YI [Env] (A:Nat→List SV→Prop) (Q:V→Prop) (a b:List UInt8) (c d:Int) (u v:aC):Prop:=
 (aa ((false==false)==true) ((∃b0 b1:aC,[.agg [.int .i64 u.f0,.int .i64 u.f1,.int .u64 u.f2,.str u.f3],.tuple []]=[aC.enc b0,aC.enc b1]∧∀b2:Bool,(b2=true↔b0=b1)→aa (false==false) (Q (.bool b2)) (Q (.bool false)))) (aa (false==false) (Q (.tuple [])) (Q (.bool false))))
theorem Vy [Env] (A:Nat→List SV→Prop) (Q:V→Prop) (a b:List UInt8) (c d:Int) (u v:aC):WE Tryz.prog 164 Tryz.f164 xQ 0 rO A (fun v _=>Q v) [.agg [.str a,.int .i64 c,.bool true,.int .i64 u.f0,.int .i64 u.f1,.int .u64 u.f2,.str u.f3],.agg [.str b,.int .i64 d,.bool true,.int .i64 v.f0,.int .i64 v.f1,.int .u64 v.f2,.str v.f3]] Go.Ev.start=
  (aa (decide (a=b)) (((.i64:IntKind)=.i64∧aa (decide (c=d)) (aa ((true==true)==true) (aa ((true==true)==true) (aa ((true==true)==true) (aa ((true==true)==true) (aa ((true==true)==true) ((∃q30 q31:aC,[.agg [.int .i64 u.f0,.int .i64 u.f1,.int .u64 u.f2,.str u.f3],.agg [.int .i64 v.f0,.int .i64 v.f1,.int .u64 v.f2,.str v.f3]]=[aC.enc q30,aC.enc q31]∧∀TL:Bool,(TL=true↔q30=q31)→aa (true==true) (Q (.bool TL)) (Q (.bool false)))) (aa (true==true) (Q (.tuple [])) (Q (.bool false)))) (aa ((true==true)==true) ((∃q33 q34:aC,[.agg [.int .i64 u.f0,.int .i64 u.f1,.int .u64 u.f2,.str u.f3],.tuple []]=[aC.enc q33,aC.enc q34]∧∀TM:Bool,(TM=true↔q33=q34)→aa (true==true) (Q (.bool TM)) (Q (.bool false)))) (aa (true==true) (Q (.tuple [])) (Q (.bool false))))) (aa ((true==true)==true) False (aa ((true==true)==true) ((∃q36 q37:aC,[.agg [.int .i64 u.f0,.int .i64 u.f1,.int .u64 u.f2,.str u.f3],.tuple []]=[aC.enc q36,aC.enc q37]∧∀TH:Bool,(TH=true↔q36=q37)→aa (true==true) (Q (.bool TH)) (Q (.bool false)))) (aa (true==true) (Q (.tuple [])) (Q (.bool false)))))) (YH A Q a b c d u v)) (aa ((true==true)==true) False (YH A Q a b c d u v))) (Q (.bool false)))) (Q (.bool false))):=by kernel_rfl
theorem Vz [Env] (A:Nat→List SV→Prop) (Q:V→Prop) (a b:List UInt8) (c d:Int) (u v:aC):WE Tryz.prog 164 Tryz.f164 xQ 0 rO A (fun v _=>Q v) [.agg [.str a,.int .i64 c,.bool true,.int .i64 u.f0,.int .i64 u.f1,.int .u64 u.f2,.str u.f3],.agg [.str b,.int .i64 d,.bool false,.int .i64 v.f0,.int .i64 v.f1,.int .u64 v.f2,.str v.f3]] Go.Ev.start=
  (aa (decide (a=b)) (((.i64:IntKind)=.i64∧aa (decide (c=d)) (aa ((true==false)==true) (aa ((true==false)==true) (aa ((true==false)==true) (aa ((true==false)==true) (aa ((true==false)==true) ((∃q57 q58:aC,[.agg [.int .i64 u.f0,.int .i64 u.f1,.int .u64 u.f2,.str u.f3],.agg [.int .i64 v.f0,.int .i64 v.f1,.int .u64 v.f2,.str v.f3]]=[aC.enc q57,aC.enc q58]∧∀e59:Bool,(e59=true↔q57=q58)→aa (true==false) (Q (.bool e59)) (Q (.bool false)))) (aa (true==false) (Q (.tuple [])) (Q (.bool false)))) (aa ((true==false)==true) ((∃q60 q61:aC,[.agg [.int .i64 u.f0,.int .i64 u.f1,.int .u64 u.f2,.str u.f3],.tuple []]=[aC.enc q60,aC.enc q61]∧∀e62:Bool,(e62=true↔q60=q61)→aa (true==false) (Q (.bool e62)) (Q (.bool false)))) (aa (true==false) (Q (.tuple [])) (Q (.bool false))))) (aa ((true==false)==true) False (aa ((true==false)==true) ((∃q63 q64:aC,[.agg [.int .i64 u.f0,.int .i64 u.f1,.int .u64 u.f2,.str u.f3],.tuple []]=[aC.enc q63,aC.enc q64]∧∀e65:Bool,(e65=true↔q63=q64)→aa (true==false) (Q (.bool e65)) (Q (.bool false)))) (aa (true==false) (Q (.tuple [])) (Q (.bool false)))))) (YG A Q a b c d u v)) (aa ((true==false)==true) False (YG A Q a b c d u v))) (Q (.bool false)))) (Q (.bool false))):=by kernel_rfl
theorem VA [Env] (A:Nat→List SV→Prop) (Q:V→Prop) (a b:List UInt8) (c d:Int) (u v:aC):WE Tryz.prog 164 Tryz.f164 xQ 0 rO A (fun v _=>Q v) [.agg [.str a,.int .i64 c,.bool false,.int .i64 u.f0,.int .i64 u.f1,.int .u64 u.f2,.str u.f3],.agg [.str b,.int .i64 d,.bool true,.int .i64 v.f0,.int .i64 v.f1,.int .u64 v.f2,.str v.f3]] Go.Ev.start=
  (aa (decide (a=b)) (((.i64:IntKind)=.i64∧aa (decide (c=d)) (aa ((false==true)==true) (aa ((false==true)==true) (aa ((false==true)==true) (aa ((false==true)==true) (aa ((false==true)==true) ((∃q84 q85:aC,[.agg [.int .i64 u.f0,.int .i64 u.f1,.int .u64 u.f2,.str u.f3],.agg [.int .i64 v.f0,.int .i64 v.f1,.int .u64 v.f2,.str v.f3]]=[aC.enc q84,aC.enc q85]∧∀e86:Bool,(e86=true↔q84=q85)→aa (false==true) (Q (.bool e86)) (Q (.bool false)))) (aa (false==true) (Q (.tuple [])) (Q (.bool false)))) (aa ((false==true)==true) ((∃q87 q88:aC,[.agg [.int .i64 u.f0,.int .i64 u.f1,.int .u64 u.f2,.str u.f3],.tuple []]=[aC.enc q87,aC.enc q88]∧∀e89:Bool,(e89=true↔q87=q88)→aa (false==true) (Q (.bool e89)) (Q (.bool false)))) (aa (false==true) (Q (.tuple [])) (Q (.bool false))))) (aa ((false==true)==true) False (aa ((false==true)==true) ((∃q90 q91:aC,[.agg [.int .i64 u.f0,.int .i64 u.f1,.int .u64 u.f2,.str u.f3],.tuple []]=[aC.enc q90,aC.enc q91]∧∀e92:Bool,(e92=true↔q90=q91)→aa (false==true) (Q (.bool e92)) (Q (.bool false)))) (aa (false==true) (Q (.tuple [])) (Q (.bool false)))))) (YF A Q a b c d u v)) (aa ((false==true)==true) False (YF A Q a b c d u v))) (Q (.bool false)))) (Q (.bool false))):=by kernel_rfl
theorem VB [Env] (A:Nat→List SV→Prop) (Q:V→Prop) (a b:List UInt8) (c d:Int) (u v:aC):WE Tryz.prog 164 Tryz.f164 xQ 0 rO A (fun v _=>Q v) [.agg [.str a,.int .i64 c,.bool false,.int .i64 u.f0,.int .i64 u.f1,.int .u64 u.f2,.str u.f3],.agg [.str b,.int .i64 d,.bool false,.int .i64 v.f0,.int .i64 v.f1,.int .u64 v.f2,.str v.f3]] Go.Ev.start=
  (aa (decide (a=b)) (((.i64:IntKind)=.i64∧aa (decide (c=d)) (aa ((false==false)==true) (aa ((false==false)==true) (aa ((false==false)==true) (aa ((false==false)==true) (aa ((false==false)==true) ((∃YJ YK:aC,[.agg [.int .i64 u.f0,.int .i64 u.f1,.int .u64 u.f2,.str u.f3],.agg [.int .i64 v.f0,.int .i64 v.f1,.int .u64 v.f2,.str v.f3]]=[aC.enc YJ,aC.enc YK]∧∀YL:Bool,(YL=true↔YJ=YK)→aa (false==false) (Q (.bool YL)) (Q (.bool false)))) (aa (false==false) (Q (.tuple [])) (Q (.bool false)))) (YI A Q a b c d u v)) (aa ((false==false)==true) False (YI A Q a b c d u v))) (YE A Q a b c d u v)) (aa ((false==false)==true) False (YE A Q a b c d u v))) (Q (.bool false)))) (Q (.bool false))):=by kernel_rfl
def YM [Env] (vs:List V) (σ:St) (k:ai):Prop:=
 ∃x y:ak,vs=[ak.enc x,ak.enc y]∧∀b:Bool,(b=true↔x=y)→k (.bool b) σ
def E3 [Env]:=kS 164 YM xQ
def AY:Nat→List Nat:=(fun i=>match i with | 0=>[0,1,5] | _=>[])
theorem ag3 [Env] (A:Nat→List SV→Prop) (Q:V→Prop) (l m:List ak):WE Tryz.prog 129 Tryz.f129 E3 0 AY A (fun v _=>Q v) [af ak.enc 7 l,af ak.enc 7 m] Go.Ev.start=
  (((.i64:IntKind)=.i64∧aa (decide ((((l.length:Nat):Int))≠(((m.length:Nat):Int)))) (Q (.bool false)) (A 0 [.val (af ak.enc 7 l),.val (af ak.enc 7 m),.val (.int .i64 (0:Int))]))):=by kernel_rfl
theorem ag4 [Env] (A:Nat→List SV→Prop) (Q:V→Prop) (l m:List ak) (i:Int):WL Tryz.prog 129 Tryz.f129 E3 0 AY A (fun v _=>Q v) 0 [.val (af ak.enc 7 l),.val (af ak.enc 7 m),.val (.int .i64 i)]=
  (((.i64:IntKind)=.i64∧aa (decide (i<(((l.length:Nat):Int)))) (((0≤i∧i<((l.length:Nat):Int))∧((0≤i∧i<((m.length:Nat):Int))∧(∃YN YO:ak,[ak.enc (l.getD i.toNat default),ak.enc (m.getD i.toNat default)]=[ak.enc YN,ak.enc YO]∧∀YP:Bool,(YP=true↔YN=YO)→aa ((!YP)) (Q (.bool false)) (A 0 [.val (af ak.enc 7 l),.val (af ak.enc 7 m),.val (.int .i64 (IntKind.i64.wrap (i+(1:Int))))]))))) (Q (.bool true)))):=by kernel_rfl
def YQ [Env] (vs:List V) (σ:St) (k:ai):Prop:=
 ∃x y:List ak,vs=[af ak.enc 7 x,af ak.enc 7 y]∧x.length≤1000000∧∀b:Bool,(b=true↔x=y)→k (.bool b) σ
def LM [Env]:=kS 129 YQ E3
def Oi:Nat→List Nat:=(fun _=>[])
theorem e76 [Env] (A:Nat→List SV→Prop) (Q:V→Prop) (x y:ae):WE Tryz.prog 76 Tryz.f76 LM 0 Oi A (fun v _=>Q v) [ae.enc x,ae.enc y] Go.Ev.start=
  (aa (decide (x.f0=y.f0)) (((.i64:IntKind)=.i64∧aa (decide (x.f1=y.f1)) ((∃QT YR:List ak,[af ak.enc 7 x.f2,af ak.enc 7 y.f2]=[af ak.enc 7 QT,af ak.enc 7 YR]∧QT.length≤1000000∧∀YS:Bool,(YS=true↔QT=YR)→Q (.bool YS))) (Q (.bool false)))) (Q (.bool false))):=by kernel_rfl
def W76 [Env] (vs:List V) (σ:St) (k:ai):Prop:=
 ∃x y:ae,vs=[ae.enc x,ae.enc y]∧x.f2.length≤1000000∧∀b:Bool,(b=true↔x=y)→k (.bool b) σ
def E4 [Env]:=kS 76 W76 LM
def E5:Nat→List Nat:=(fun i=>match i with | 0=>[0,1,5] | _=>[])
theorem TL [Env] (A:Nat→List SV→Prop) (Q:V→Prop) (l m:List ae):WE Tryz.prog 32 Tryz.f32 E4 0 E5 A (fun v _=>Q v) [af ae.enc 3 l,af ae.enc 3 m] Go.Ev.start=
  (((.i64:IntKind)=.i64∧aa (decide ((((l.length:Nat):Int))≠(((m.length:Nat):Int)))) (Q (.bool false)) (A 0 [.val (af ae.enc 3 l),.val (af ae.enc 3 m),.val (.int .i64 (0:Int))]))):=by kernel_rfl
theorem r32 [Env] (A:Nat→List SV→Prop) (Q:V→Prop) (l m:List ae) (i:Int):WL Tryz.prog 32 Tryz.f32 E4 0 E5 A (fun v _=>Q v) 0 [.val (af ae.enc 3 l),.val (af ae.enc 3 m),.val (.int .i64 i)]=
  (((.i64:IntKind)=.i64∧aa (decide (i<(((l.length:Nat):Int)))) (((0≤i∧i<((l.length:Nat):Int))∧((0≤i∧i<((m.length:Nat):Int))∧(∃QU YT:ae,[ae.enc (l.getD i.toNat default),ae.enc (m.getD i.toNat default)]=[ae.enc QU,ae.enc YT]∧QU.f2.length≤1000000∧∀YU:Bool,(YU=true↔QU=YT)→aa ((!YU)) (Q (.bool false)) (A 0 [.val (af ae.enc 3 l),.val (af ae.enc 3 m),.val (.int .i64 (IntKind.i64.wrap (i+(1:Int))))]))))) (Q (.bool true)))):=by kernel_rfl
def W32 [Env] (vs:List V) (σ:St) (k:ai):Prop:=
 ∃x y:List ae,vs=[af ae.enc 3 x,af ae.enc 3 y]∧(x.length≤1000000∧∀t∈x,t.f2.length≤1000000)∧∀b:Bool,(b=true↔x=y)→k (.bool b) σ
def vz [Env]:=kS 32 W32 E4
def rQ:Nat→List Nat:=(fun i=>match i with | 0=>[0,3] | _=>[])
theorem NA [Env] (A:Nat→List SV→Prop) (Q:V→Prop) (l:List ae):WE Tryz.prog 27 Tryz.f27 vz 0 rQ A (fun v _=>Q v) [af ae.enc 3 l] Go.Ev.start=
  (((.i64:IntKind)=.i64∧aa (decide ((((l.length:Nat):Int))>(20:Int))) (Q (.int .i64 (0:Int))) (A 0 [.val (af ae.enc 3 l),.val (.int .i64 (0:Int))]))):=by kernel_rfl
theorem r27 [Env] (A:Nat→List SV→Prop) (Q:V→Prop) (l:List ae) (i:Int):WL Tryz.prog 27 Tryz.f27 vz 0 rQ A (fun v _=>Q v) 0 [.val (af ae.enc 3 l),.val (.int .i64 i)]=
  (((.i64:IntKind)=.i64∧aa (decide (i<(((l.length:Nat):Int)))) (((0≤i∧i<((l.length:Nat):Int))∧((∃ag5:ae,[ae.enc (l.getD i.toNat default)]=[ae.enc ag5])∧((.i64:IntKind)=.i64∧Q (.int .i64 (0:Int)))∧((.i64:IntKind)=.i64∧A 0 [.val (af ae.enc 3 l),.val (.int .i64 (IntKind.i64.wrap (i+(1:Int))))])))) (Q (.int .i64 (1:Int))))):=by kernel_rfl
def W27 [Env] (vs:List V) (σ:St) (k:ai):Prop:=
 H2 (∃l:List ae,vs=[af ae.enc 3 l]) σ k
def E6 [Env]:=kS 27 W27 vz
end Go.Proofs.YtbajncpfmemdgaaGreatDoor
end
section
namespace Go.Proofs.YtbajncpfmemdgaaGreatDoor
open Go Go.Ev Go.IntWalk
theorem F83:bc Tryz.prog 83 Tryz.f83:=.of (by kernel_rfl) (by kernel_rfl)
theorem F82:bc Tryz.prog 82 Tryz.f82:=.of (by kernel_rfl) (by kernel_rfl)
theorem F40:bc Tryz.prog 40 Tryz.f40:=.of (by kernel_rfl) (by kernel_rfl)
theorem F41:bc Tryz.prog 41 Tryz.f41:=.of (by kernel_rfl) (by kernel_rfl)
theorem F38:bc Tryz.prog 38 Tryz.f38:=.of (by kernel_rfl) (by kernel_rfl)
theorem F39:bc Tryz.prog 39 Tryz.f39:=.of (by kernel_rfl) (by kernel_rfl)
theorem F212:bc Tryz.prog 212 Tryz.f212:=.of (by kernel_rfl) (by kernel_rfl)
theorem F164:bc Tryz.prog 164 Tryz.f164:=.of (by kernel_rfl) (by kernel_rfl)
theorem F129:bc Tryz.prog 129 Tryz.f129:=.of (by kernel_rfl) (by kernel_rfl)
theorem F76:bc Tryz.prog 76 Tryz.f76:=.of (by kernel_rfl) (by kernel_rfl)
theorem F32:bc Tryz.prog 32 Tryz.f32:=.of (by kernel_rfl) (by kernel_rfl)
theorem F27:bc Tryz.prog 27 Tryz.f27:=.of (by kernel_rfl) (by kernel_rfl)
theorem gR {α:Type} [Inhabited α] {l:List α} {i:Nat} (h:i<l.length):l.getD i default=l[i]:=by rw[List.getD_eq_getElem?_getD,List.getElem?_eq_getElem h];rfl
theorem QV {α:Type} [Inhabited α] {l m:List α} (hl:l.length=m.length) (h:∀i,i<l.length→l.getD i default=m.getD i default):l=m:=
 List.ext_getElem hl fun i h1 h2=>by have:=h i h1;rwa [gR h1,gR h2] at this
theorem lW (q:Nat→List UInt8):∀n,wH q n=true↔∀i,i<n→0<i→(Op.bytesLess (q i) (q (i-1))||q i==q (i-1))=false
 | 0=>⟨fun _ i hi=>absurd hi (Nat.not_lt_zero i),fun _=>rfl⟩
 | n+1=>by
  show(wH q n&&(decide (n=0)|| !(Op.bytesLess (q n) (q (n-1))||q n==q (n-1))))=true↔_
  rw[Bool.and_eq_true,lW q n,Bool.or_eq_true,decide_eq_true_iff,Bool.not_eq_true']
  constructor
  ·rintro⟨h1,h2⟩ i hi h0
   by_cases e:i=n
   ·subst e;exact h2.resolve_left (by omega)
   ·exact h1 i (by omega) h0
  ·intro h
   refine⟨fun i hi h0=>h i (by omega) h0,?_⟩
   by_cases e:n=0
   ·exact .inl e
   ·exact .inr (h n (by omega) (by omega))
def nameAt (l:List ae) (i:Nat):List UInt8:=(l.getD i default).f0
theorem td {l:List ae} (h:l.length>16):cn l=2:=by unfold cn;rw[if_pos h]
theorem zo {l:List ae} (h:¬l.length>16) {i:Nat} (hi:i<l.length) (h1:bK (l.getD i default)≠0) (h2:∀j,j<i→bK (l.getD j default)=0):cn l=bK (l.getD i default):=by
 have:=jg (fun i=>bK (l.getD i default)) l.length i hi h1 h2
 unfold cn
 rw[if_neg h,this,if_pos h1]
theorem k0 {l:List ae} (h:¬l.length>16) (h2:∀j,j<l.length→bK (l.getD j default)=0):cn l=if wH (nameAt l) l.length=true then 0 else 12:=by
 have:=(cu (fun i=>bK (l.getD i default)) l.length).2 h2
 unfold cn
 rw[if_neg h,if_neg (by rw[this];exact fun h=>h rfl)];rfl
theorem B7 {l:List ae} (h:¬l.length>16) (h2:∀j,j<l.length→bK (l.getD j default)=0) {i:Nat} (hi:i<l.length) (h0:0<i) (hb:(Op.bytesLess (nameAt l i) (nameAt l (i-1))||nameAt l i==nameAt l (i-1))=true):cn l=12:=by
 rw[k0 h h2,if_neg]
 intro hr
 have:=(lW _ _).1 hr i hi h0
 rw[hb] at this;cases this
section
variable [Env] [aL] {vs:List V} {σ:St} {k:ai}
omit [aL] in
theorem bE (l:List ae):Go.Ev.Clean (af ae.enc 3 l):=fT (enc:=ae.enc) fun x _=>ae.clean x
omit [aL] in
theorem er (l:List ak):Go.Ev.Clean (af ak.enc 7 l):=fT (enc:=ak.enc) fun x _=>ak.clean x
omit [aL] in
theorem QW {f:FuncId} {s:List UInt8}:Go.Ev.Clean (.func (.func f) [] [.aQ [.str s] 0]):=Go.Ev.Clean.fn cM (aI (Go.Ev.Clean.aQ (aI (Go.Ev.Clean.str _) cM)) cM)
theorem YV (h:W83 vs σ k):ag Tryz.prog 83 vs k σ:=by
 obtain⟨e,s,rfl,h⟩:=h
 refine ag.cb (ar (ae.aE e) (ar (Go.Ev.Clean.aQ (aI (Go.Ev.Clean.str _) cM)) aG)) (.bool _) (F83.flat (live:=Og) (call:=LI) (n₀:=0) (σ:=Go.Ev.start) (fun h=>I9 h) rfl (by kernel_rfl) ?_) h
 rw[e83]
 exact aq (fun h=>by rw[decide_eq_true h]) fun h=>by rw[decide_eq_false h]
theorem Jb:∀ {f:FuncId} {vs:List V} {σ:St} {k:ai},EX f vs σ k→ag Tryz.prog f vs k σ:=fun h=>aD YV I9 h
def I82 (l:List ae) (s:List UInt8):Nat→List SV→Prop
 | 0,ss=>∃i:Nat,i≤l.length∧(∀j,j<i→nameAt l j≠s)∧ss=[.val (af ae.enc 3 l),.val (.func (.func 83) [] [.aQ [.str s] 0]),.val (.int .i64 ((l.length:Nat):Int)),.val (.int .i64 ((i:Nat):Int))]
 | _,_=>False
theorem YW (h:W82 vs σ k):ag Tryz.prog 82 vs k σ:=by
 obtain⟨l,s,hf,hn,h⟩:=h
 refine ag.cb hf (.int _ _) (F82.bV (live:=EY) (call:=EX) (n₀:=0) (σ:=Go.Ev.start) (fun h=>Jb h) rfl 1 (by kernel_rfl) Nat.lt_wfRel.wf (fun _ ss=>l.length-bF ss) (I82 l s) ?_ ?_ ?_) h
 ·intro k ss hI
  cases k with
  | zero=>obtain⟨i,_,_,rfl⟩:=hI;exact ax (bE l) (ax QW (ay (ay bg)))
  | succ k=>exact hI.elim
 ·rw[e82]
  exact⟨0,by omega,fun j hj=>absurd hj (Nat.not_lt_zero j),rfl⟩
 ·intro k hk ss hI
  obtain rfl:k=0:=by omega
  obtain⟨i,hi,hj,rfl⟩:=hI
  rw[r82]
  refine⟨rfl,aq (fun h1=>⟨⟨by omega,by omega⟩,⟨_,_,rfl,aq (fun h2=>?_) fun h2=>?_⟩⟩) fun h1=>?_⟩
  ·rw[cA] at h2
   show V.int .i64 (i:Int)=.int .i64 (bT s (nameAt l) l.length)
   rw[kD s _ l.length i (by omega) h2 hj]
  ·rw[cA] at h2
   rw[i64_in ((i:Int)+1) (by omega)]
   refine⟨⟨i+1,by omega,fun j gK=>?_,rfl⟩,?_⟩
   ·by_cases e:j=i
    ·subst e;exact h2
    ·exact hj j (by omega)
   ·show l.length-((i:Int)+1).toNat<l.length-(i:Int).toNat
    omega
  ·obtain rfl:i=l.length:=by omega
   show V.int .i64 (-1:Int)=.int .i64 (bT s (nameAt l) l.length)
   rw[iA s _ l.length hj]
theorem Jc:∀ {f:FuncId} {vs:List V} {σ:St} {k:ai},LK f vs σ k→ag Tryz.prog f vs k σ:=fun h=>aD YW Jb h
theorem YX (h:W40 vs σ k):ag Tryz.prog 40 vs k σ:=by
 obtain⟨l,s,rfl,hn,h⟩:=h
 refine ag.cb (ar (bE l) (ar (Go.Ev.Clean.str _) aG)) (.int _ _) (F40.flat (live:=Oh) (call:=LK) (n₀:=0) (σ:=Go.Ev.start) (fun h=>Jc h) rfl (by kernel_rfl) ?_) h
 rw[e40]
 exact⟨l,s,.cons (.clean (bE l)) (.cons (.func .nil (.cons (.D3 (n:=1) (cs:=[.str s]) (by rfl) (.cons (.str _) .nil)) .nil)) .nil),hn,rfl⟩
theorem Jd:∀ {f:FuncId} {vs:List V} {σ:St} {k:ai},EZ f vs σ k→ag Tryz.prog f vs k σ:=fun h=>aD YX Jc h
def I41 (l:List ae) (s:List UInt8):Nat→List SV→Prop
 | 0,ss=>∃i:Nat,i≤l.length∧(∀j,j<i→nameAt l j≠s)∧ss=[.val (af ae.enc 3 l),.val (.str s),.val (.int .i64 ((i:Nat):Int))]
 | _,_=>False
theorem YY (h:W41 vs σ k):ag Tryz.prog 41 vs k σ:=by
 obtain⟨l,s,rfl,hn,h⟩:=h
 refine ag.cb (ar (bE l) (ar (Go.Ev.Clean.str _) aG)) (.int _ _) (F41.bV (live:=E0) (call:=EZ) (n₀:=0) (σ:=Go.Ev.start) (fun h=>Jd h) rfl 1 (by kernel_rfl) Nat.lt_wfRel.wf (fun _ ss=>l.length-bF ss) (I41 l s) ?_ ?_ ?_) h
 ·intro k ss hI
  cases k with
  | zero=>obtain⟨i,_,_,rfl⟩:=hI;exact ax (bE l) (gv (ay bg))
  | succ k=>exact hI.elim
 ·rw[e41]
  exact⟨0,by omega,fun j hj=>absurd hj (Nat.not_lt_zero j),rfl⟩
 ·intro k hk ss hI
  obtain rfl:k=0:=by omega
  obtain⟨i,hi,hj,rfl⟩:=hI
  rw[r41]
  refine⟨rfl,aq (fun h1=>⟨⟨by omega,by omega⟩,aq (fun h2=>?_) fun h2=>?_⟩) fun h1=>?_⟩
  ·rw[cA] at h2
   show V.int .i64 (i:Int)=.int .i64 (bT s (nameAt l) l.length)
   rw[kD s _ l.length i (by omega) h2 hj]
  ·rw[cA] at h2
   rw[i64_in ((i:Int)+1) (by omega)]
   refine⟨⟨i+1,by omega,fun j gK=>?_,rfl⟩,?_⟩
   ·by_cases e:j=i
    ·subst e;exact h2
    ·exact hj j (by omega)
   ·show l.length-((i:Int)+1).toNat<l.length-(i:Int).toNat
    omega
  ·obtain rfl:i=l.length:=by omega
   show V.int .i64 (-1:Int)=.int .i64 (bT s (nameAt l) l.length)
   rw[iA s _ l.length hj]
theorem Je:∀ {f:FuncId} {vs:List V} {σ:St} {k:ai},AW f vs σ k→ag Tryz.prog f vs k σ:=fun h=>aD YY Jd h
def TN (l:List ae) (i:Nat):Prop:=i≤l.length∧∀j,j<i→bK (l.getD j default)=0
def ace (l:List ae) (i:Nat):Prop:=i≤l.length∧(∀j,j<l.length→bK (l.getD j default)=0)∧∀j,j<i→0<j→(Op.bytesLess (nameAt l j) (nameAt l (j-1))||nameAt l j==nameAt l (j-1))=false
def I38 (l:List ae):Nat→List SV→Prop
 | 0,ss=>∃i:Nat,(¬l.length>16∧TN l i)∧ss=[.val (af ae.enc 3 l),.val (af ae.enc 3 l),.val (.int .i64 ((l.length:Nat):Int)),.val (.int .i64 ((i:Nat):Int))]
 | 1,ss=>∃i:Nat,(¬l.length>16∧ace l i)∧ss=[.val (af ae.enc 3 l),.val (.int .i64 ((l.length:Nat):Int)),.val (.int .i64 ((i:Nat):Int))]
 | _,_=>False
def YZ (l:List ae) (j:Nat) (ss:List SV):Nat:=(1-j)*100+(l.length-bF ss)
theorem Y0 (h:W38 vs σ k):ag Tryz.prog 38 vs k σ:=by
 obtain⟨l,rfl,cT,h⟩:=h
 refine ag.cb (ar (bE l) aG) (.int _ _) (F38.bV (live:=zm) (call:=AW) (n₀:=0) (σ:=Go.Ev.start) (fun h=>Je h) rfl 2 (by kernel_rfl) Nat.lt_wfRel.wf (YZ l) (I38 l) ?_ ?_ ?_) h
 ·intro k ss hI
  match k,hI with
  | 0,hI=>obtain⟨i,_,rfl⟩:=hI;exact ax (bE l) (ax (bE l) (ay (ay bg)))
  | 1,hI=>obtain⟨i,_,rfl⟩:=hI;exact ax (bE l) (ay (ay bg))
  | n+2,hI=>exact hI.elim
 ·rw[TH]
  refine⟨rfl,aq (fun h1=>by rw[td (by omega)]) fun h1=>⟨0,⟨by omega,Nat.zero_le _,fun j hj=>absurd hj (Nat.not_lt_zero j)⟩,rfl⟩⟩
 ·intro k hk ss hI
  match k,hI with
  | 0,hI=>
   obtain⟨i,⟨n0,hi,hj⟩,rfl⟩:=hI
   rw[agY]
   refine⟨rfl,aq (fun h1=>⟨⟨by omega,by omega⟩,⟨_,rfl,cT _ (bm (by omega)),rfl,aq (fun h2=>?_) fun h2=>?_⟩⟩) fun h1=>?_⟩
   ·rw[cA] at h2⊢
    rw[zo n0 (by omega) h2 hj]
   ·rw[cA] at h2
    rw[i64_in ((i:Int)+1) (by omega)]
    refine⟨⟨i+1,⟨n0,by omega,fun j gK=>?_⟩,rfl⟩,?_⟩
    ·by_cases e:j=i
     ·subst e;exact Classical.not_not.mp h2
     ·exact hj j (by omega)
    ·show 1*100+(l.length-((i:Int)+1).toNat)<1*100+(l.length-(i:Int).toNat)
     omega
   ·obtain rfl:i=l.length:=by omega
    refine⟨⟨0,⟨n0,Nat.zero_le _,hj,fun j hj=>absurd hj (Nat.not_lt_zero j)⟩,rfl⟩,?_⟩
    show 0*100+(l.length-(0:Int).toNat)<1*100+(l.length-(l.length:Int).toNat)
    have:(0:Int).toNat=0:=rfl
    omega
  | 1,hI=>
   obtain⟨i,⟨n0,hi,hz,hj⟩,rfl⟩:=hI
   rw[agZ]
   have go:(0<i→(Op.bytesLess (nameAt l i) (nameAt l (i-1))||nameAt l i==nameAt l (i-1))=false)→i<l.length→I38 l 1 [.val (af ae.enc 3 l),.val (.int .i64 ((l.length:Nat):Int)),.val (.int .i64 (IntKind.i64.wrap ((i:Int)+1)))]∧YZ l 1 [.val (af ae.enc 3 l),.val (.int .i64 ((l.length:Nat):Int)),.val (.int .i64 (IntKind.i64.wrap ((i:Int)+1)))]<YZ l 1 [.val (af ae.enc 3 l),.val (.int .i64 ((l.length:Nat):Int)),.val (.int .i64 ((i:Nat):Int))]:=fun h2 h3=>by
    rw[i64_in ((i:Int)+1) (by omega)]
    refine⟨⟨i+1,⟨n0,by omega,hz,fun j gK h0=>?_⟩,rfl⟩,?_⟩
    ·by_cases e:j=i
     ·subst e;exact h2 h0
     ·exact hj j (by omega) h0
    ·show 0*100+(l.length-((i:Int)+1).toNat)<0*100+(l.length-(i:Int).toNat)
     omega
   refine⟨rfl,aq (fun h1=>⟨rfl,aq (fun h2=>?_) fun h2=>go (fun h=>absurd h (by omega)) (by omega)⟩) fun h1=>?_⟩
   ·have e1:IntKind.i64.wrap ((i:Int)-1)=((i-1:Nat):Int):=by rw[i64_in ((i:Int)-1) (by omega)];omega
    rw[e1]
    refine⟨⟨by omega,by omega⟩,⟨by omega,by omega⟩,aa.mk (fun h3=>?_) fun h3=>go (fun _=>h3) (by omega)⟩
    rw[B7 n0 hz (i:=i) (by omega) (by omega) h3]
   ·obtain rfl:i=l.length:=by omega
    rw[k0 n0 hz,if_pos ((lW _ _).2 hj)]
  | n+2,hI=>exact hI.elim
theorem Jf:∀ {f:FuncId} {vs:List V} {σ:St} {k:ai},AX f vs σ k→ag Tryz.prog f vs k σ:=fun h=>aD Y0 Je h
def I39 (l:List ae):Nat→List SV→Prop
 | 0,ss=>∃i:Nat,(¬l.length>16∧TN l i)∧ss=[.val (af ae.enc 3 l),.val (.int .i64 ((i:Nat):Int))]
 | 1,ss=>∃i:Nat,(¬l.length>16∧0<i∧(i≤l.length∨i=1)∧(∀j,j<l.length→bK (l.getD j default)=0)∧∀j,j<i→0<j→(Op.bytesLess (nameAt l j) (nameAt l (j-1))||nameAt l j==nameAt l (j-1))=false)∧ss=[.val (af ae.enc 3 l),.val (.int .i64 ((i:Nat):Int))]
 | _,_=>False
def m39 (l:List ae) (j:Nat) (ss:List SV):Nat:=(1-j)*100+(l.length+2-bF ss)
theorem Y1 (h:W39 vs σ k):ag Tryz.prog 39 vs k σ:=by
 obtain⟨l,rfl,cT,h⟩:=h
 refine ag.cb (ar (bE l) aG) (.int _ _) (F39.bV (live:=zn) (call:=AX) (n₀:=0) (σ:=Go.Ev.start) (fun h=>Jf h) rfl 2 (by kernel_rfl) Nat.lt_wfRel.wf (m39 l) (I39 l) ?_ ?_ ?_) h
 ·intro k ss hI
  match k,hI with
  | 0,hI=>obtain⟨i,_,rfl⟩:=hI;exact ax (bE l) (ay bg)
  | 1,hI=>obtain⟨i,_,rfl⟩:=hI;exact ax (bE l) (ay bg)
  | n+2,hI=>exact hI.elim
 ·rw[e39]
  refine⟨rfl,aq (fun h1=>by rw[td (by omega)]) fun h1=>⟨0,⟨by omega,Nat.zero_le _,fun j hj=>absurd hj (Nat.not_lt_zero j)⟩,rfl⟩⟩
 ·intro k hk ss hI
  match k,hI with
  | 0,hI=>
   obtain⟨i,⟨n0,hi,hj⟩,rfl⟩:=hI
   rw[ag0]
   refine⟨rfl,aq (fun h1=>⟨⟨by omega,by omega⟩,⟨_,rfl,cT _ (bm (by omega)),rfl,aq (fun h2=>?_) fun h2=>?_⟩⟩) fun h1=>?_⟩
   ·rw[cA] at h2⊢
    rw[zo n0 (by omega) h2 hj]
   ·rw[cA] at h2
    rw[i64_in ((i:Int)+1) (by omega)]
    refine⟨⟨i+1,⟨n0,by omega,fun j gK=>?_⟩,rfl⟩,?_⟩
    ·by_cases e:j=i
     ·subst e;exact Classical.not_not.mp h2
     ·exact hj j (by omega)
    ·show 1*100+(l.length+2-((i:Int)+1).toNat)<1*100+(l.length+2-(i:Int).toNat)
     omega
   ·obtain rfl:i=l.length:=by omega
    refine⟨⟨1,⟨n0,by omega,.inr rfl,hj,fun j hj h0=>absurd h0 (by omega)⟩,rfl⟩,?_⟩
    show 0*100+(l.length+2-(1:Int).toNat)<1*100+(l.length+2-(l.length:Int).toNat)
    have:(1:Int).toNat=1:=rfl
    omega
  | 1,hI=>
   obtain⟨i,⟨n0,h0,hi,hz,hj⟩,rfl⟩:=hI
   rw[ag1]
   refine⟨rfl,aq (fun h1=>?_) fun h1=>?_⟩
   ·have e1:IntKind.i64.wrap ((i:Int)-1)=((i-1:Nat):Int):=by rw[i64_in ((i:Int)-1) (by omega)];omega
    rw[e1,i64_in ((i:Int)+1) (by omega)]
    refine⟨⟨by omega,by omega⟩,⟨by omega,by omega⟩,aa.mk (fun h3=>?_) fun h3=>⟨⟨i+1,⟨n0,by omega,by omega,hz,fun j gK h0'=>?_⟩,rfl⟩,?_⟩⟩
    ·rw[B7 n0 hz (i:=i) (by omega) (by omega) h3]
    ·by_cases e:j=i
     ·subst e;exact h3
     ·exact hj j (by omega) h0'
    ·show 0*100+(l.length+2-((i:Int)+1).toNat)<0*100+(l.length+2-(i:Int).toNat)
     omega
   ·rw[k0 n0 hz,if_pos ((lW _ _).2 fun j h4 h5=>hj j (by omega) h5)]
  | n+2,hI=>exact hI.elim
theorem Jg:∀ {f:FuncId} {vs:List V} {σ:St} {k:ai},LL f vs σ k→ag Tryz.prog f vs k σ:=fun h=>aD Y1 Jf h
def fE (p:Prop) (v:V):Prop:=∃b:Bool,(b=true↔p)∧v=.bool b
omit [aL] in
theorem fE.ga {p:Prop}:∀v,fE p v→dK v:=fun v ⟨b,_,e⟩=>by subst e;exact .bool b
omit [Env] [aL] in
theorem zp {p:Prop} (h:p):fE p (.bool true):=⟨true,⟨fun _=>h,fun _=>rfl⟩,rfl⟩
omit [Env] [aL] in
theorem iD {p:Prop} (h:¬p):fE p (.bool false):=⟨false,⟨fun c=>(by cases c),fun c=>(h c).elim⟩,rfl⟩
omit [Env] [aL] in
theorem aC.wI {x y:aC} (h0:x.f0=y.f0) (h1:x.f1=y.f1) (h2:x.f2=y.f2) (h3:x.f3=y.f3):x=y:=by
 cases x;cases y;simp only at h0 h1 h2 h3;subst h0;subst h1;subst h2;subst h3;rfl
omit [Env] [aL] in
theorem ae.wI {x y:ae} (h0:x.f0=y.f0) (h1:x.f1=y.f1) (h2:x.f2=y.f2):x=y:=by
 cases x;cases y;simp only at h0 h1 h2;subst h0;subst h1;subst h2;rfl
theorem VC (h:YD vs σ k):ag Tryz.prog 212 vs k σ:=by
 obtain⟨x,y,rfl,h⟩:=h
 refine ag.aU (A:=fE (x=y)) (ar (aC.aE x) (ar (aC.aE y) aG)) fE.ga (F212.flat (live:=Ja) (call:=LL) (n₀:=0) (σ:=Go.Ev.start) (fun h=>Jg h) rfl (by kernel_rfl) ?_) fun v ⟨b,hb,e⟩=>by subst e;exact h b hb
 rw[ag2]
 exact⟨rfl,aq (fun h1=>⟨rfl,aq (fun h2=>⟨rfl,aq (fun h3=>aq (fun h4=>zp (aC.wI h1 h2 h3 h4)) fun h4=>iD fun e=>h4 (by rw[e])) fun h3=>iD fun e=>h3 (by rw[e])⟩) fun h2=>iD fun e=>h2 (by rw[e])⟩) fun h1=>iD fun e=>h1 (by rw[e])⟩
theorem Jh:∀ {f:FuncId} {vs:List V} {σ:St} {k:ai},xQ f vs σ k→ag Tryz.prog f vs k σ:=fun h=>aD VC Jg h
set_option maxRecDepth 100000 in
theorem VD (h:YM vs σ k):ag Tryz.prog 164 vs k σ:=by
 obtain⟨x,y,rfl,h⟩:=h
 refine ag.aU (A:=fE (x=y)) (ar (ak.aE x) (ar (ak.aE y) aG)) fE.ga (F164.flat (live:=rO) (call:=xQ) (n₀:=0) (σ:=Go.Ev.start) (fun h=>Jh h) rfl (by kernel_rfl) ?_) fun v ⟨b,hb,e⟩=>by subst e;exact h b hb
 obtain⟨a,c,f,u⟩:=x
 obtain⟨b,d,g,v⟩:=y
 have na:a≠b→fE ((⟨a,c,f,u⟩:ak)=⟨b,d,g,v⟩) (.bool false):=fun h=>iD fun e=>h (by cases e;rfl)
 have nc:c≠d→fE ((⟨a,c,f,u⟩:ak)=⟨b,d,g,v⟩) (.bool false):=fun h=>iD fun e=>h (by cases e;rfl)
 have nf:f≠g→fE ((⟨a,c,f,u⟩:ak)=⟨b,d,g,v⟩) (.bool false):=fun h=>iD fun e=>h (by cases e;rfl)
 cases f<;>cases g
 ·exact(VB _ _ a b c d u v).mpr (aq (fun h1=>⟨rfl,aq (fun h2=>⟨u,v,rfl,fun b hb=>⟨b,hb.trans ⟨fun e=>by rw[h1,h2,e],fun e=>by cases e;rfl⟩,rfl⟩⟩) nc⟩) na)
 ·exact(VA _ _ a b c d u v).mpr (aq (fun _=>⟨rfl,aq (fun _=>nf (by decide)) nc⟩) na)
 ·exact(Vz _ _ a b c d u v).mpr (aq (fun _=>⟨rfl,aq (fun _=>nf (by decide)) nc⟩) na)
 ·exact(Vy _ _ a b c d u v).mpr (aq (fun h1=>⟨rfl,aq (fun h2=>⟨u,v,rfl,fun b hb=>⟨b,hb.trans ⟨fun e=>by rw[h1,h2,e],fun e=>by cases e;rfl⟩,rfl⟩⟩) nc⟩) na)
theorem Ji:∀ {f:FuncId} {vs:List V} {σ:St} {k:ai},E3 f vs σ k→ag Tryz.prog f vs k σ:=fun h=>aD VD Jh h
def Y2 {α:Type} [Inhabited α] (enc:α→V) (esz:Nat) (l m:List α):Nat→List SV→Prop
 | 0,ss=>∃i:Nat,(l.length=m.length∧∀j,j<i→l.getD j default=m.getD j default)∧i≤l.length∧ss=[.val (af enc esz l),.val (af enc esz m),.val (.int .i64 ((i:Nat):Int))]
 | _,_=>False
omit [aL] [Env] in
theorem te {α:Type} [Inhabited α] {l m:List α} (hl:l.length=m.length) (h:∀i,i<l.length→l.getD i default=m.getD i default):l=m:=QV hl h
theorem VE (h:YQ vs σ k):ag Tryz.prog 129 vs k σ:=by
 obtain⟨l,m,rfl,hs,h⟩:=h
 refine ag.aU (A:=fE (l=m)) (ar (er l) (ar (er m) aG)) fE.ga (F129.bV (live:=AY) (call:=E3) (n₀:=0) (σ:=Go.Ev.start) (fun h=>Ji h) rfl 1 (by kernel_rfl) Nat.lt_wfRel.wf (fun _ ss=>l.length-bF ss) (Y2 ak.enc 7 l m) ?_ ?_ ?_) fun v ⟨b,hb,e⟩=>by subst e;exact h b hb
 ·intro k ss hI
  cases k with
  | zero=>obtain⟨i,_,_,rfl⟩:=hI;exact ax (er l) (ax (er m) (ay bg))
  | succ k=>exact hI.elim
 ·rw[ag3]
  refine⟨rfl,aq (fun h1=>iD fun e=>h1 (by rw[e])) fun h1=>⟨0,⟨by omega,fun j hj=>absurd hj (Nat.not_lt_zero j)⟩,by omega,rfl⟩⟩
 ·intro k hk ss hI
  obtain rfl:k=0:=by omega
  obtain⟨i,⟨hl,cN⟩,hi,rfl⟩:=hI
  rw[ag4]
  refine⟨rfl,aq (fun h1=>⟨⟨by omega,by omega⟩,⟨by omega,by omega⟩,_,_,rfl,fun b hb=>aa.mk (fun h2=>iD fun e=>?_) fun h2=>?_⟩) fun h1=>zp (te hl fun j hj=>cN j (by omega))⟩
  ·have:=hb.2 (by rw[e]);rw[this] at h2;cases h2
  ·rw[i64_in ((i:Int)+1) (by omega)]
   refine⟨⟨i+1,⟨hl,fun j hj=>?_⟩,by omega,rfl⟩,?_⟩
   ·by_cases ej:j=i
    ·subst ej;exact hb.1 (by simpa using h2)
    ·exact cN j (by omega)
   show l.length-((i:Int)+1).toNat<l.length-(i:Int).toNat
   omega
theorem Jj:∀ {f:FuncId} {vs:List V} {σ:St} {k:ai},LM f vs σ k→ag Tryz.prog f vs k σ:=fun h=>aD VE Ji h
theorem Y3 (h:W76 vs σ k):ag Tryz.prog 76 vs k σ:=by
 obtain⟨x,y,rfl,hs,h⟩:=h
 refine ag.aU (A:=fE (x=y)) (ar (ae.aE x) (ar (ae.aE y) aG)) fE.ga (F76.flat (live:=Oi) (call:=LM) (n₀:=0) (σ:=Go.Ev.start) (fun h=>Jj h) rfl (by kernel_rfl) ?_) fun v ⟨b,hb,e⟩=>by subst e;exact h b hb
 rw[e76]
 refine aq (fun h1=>⟨rfl,aq (fun h2=>⟨_,_,rfl,hs,fun b hb=>⟨b,hb.trans ⟨fun h3=>ae.wI h1 h2 h3,fun e=>by rw[e]⟩,rfl⟩⟩) fun h2=>iD fun e=>h2 (by rw[e])⟩) fun h1=>iD fun e=>h1 (by rw[e])
theorem Jk:∀ {f:FuncId} {vs:List V} {σ:St} {k:ai},E4 f vs σ k→ag Tryz.prog f vs k σ:=fun h=>aD Y3 Jj h
theorem Y4 (h:W32 vs σ k):ag Tryz.prog 32 vs k σ:=by
 obtain⟨l,m,rfl,hs,h⟩:=h
 refine ag.aU (A:=fE (l=m)) (ar (bE l) (ar (bE m) aG)) fE.ga (F32.bV (live:=E5) (call:=E4) (n₀:=0) (σ:=Go.Ev.start) (fun h=>Jk h) rfl 1 (by kernel_rfl) Nat.lt_wfRel.wf (fun _ ss=>l.length-bF ss) (Y2 ae.enc 3 l m) ?_ ?_ ?_) fun v ⟨b,hb,e⟩=>by subst e;exact h b hb
 ·intro k ss hI
  cases k with
  | zero=>obtain⟨i,_,_,rfl⟩:=hI;exact ax (bE l) (ax (bE m) (ay bg))
  | succ k=>exact hI.elim
 ·rw[TL]
  refine⟨rfl,aq (fun h1=>iD fun e=>h1 (by rw[e])) fun h1=>⟨0,⟨by omega,fun j hj=>absurd hj (Nat.not_lt_zero j)⟩,by omega,rfl⟩⟩
 ·intro k hk ss hI
  obtain rfl:k=0:=by omega
  obtain⟨i,⟨hl,cN⟩,hi,rfl⟩:=hI
  rw[r32]
  refine⟨rfl,aq (fun h1=>⟨⟨by omega,by omega⟩,⟨by omega,by omega⟩,_,_,rfl,hs.2 _ (bm (by omega)),fun b hb=>aa.mk (fun h2=>iD fun e=>?_) fun h2=>?_⟩) fun h1=>zp (te hl fun j hj=>cN j (by omega))⟩
  ·have:=hb.2 (by rw[e]);rw[this] at h2;cases h2
  ·rw[i64_in ((i:Int)+1) (by omega)]
   refine⟨⟨i+1,⟨hl,fun j hj=>?_⟩,by omega,rfl⟩,?_⟩
   ·by_cases ej:j=i
    ·subst ej;exact hb.1 (by simpa using h2)
    ·exact cN j (by omega)
   show l.length-((i:Int)+1).toNat<l.length-(i:Int).toNat
   omega
theorem rR:∀ {f:FuncId} {vs:List V} {σ:St} {k:ai},vz f vs σ k→ag Tryz.prog f vs k σ:=fun h=>aD Y4 Jk h
end
end Go.Proofs.YtbajncpfmemdgaaGreatDoor
end
section
namespace Go.Ev
open Go
section
variable [Env] {P:Program} {σ:St}
inductive ni (τ:St) (b n:Nat) (g:Nat→V) (esz:Nat):V→Prop
 | own {f:Nat→V} {p:Bool} (hb:τ.heap.get b=some (.row n f esz p)) (h:∀i,i<n→bA (τ.kill b) (f i).cells (g i).cells):ni τ b n g esz (.own b n esz)
 | slice {m:Nat} {ex:Bool} {z:List V} {t:Trie V} {p:Bool} (hb:τ.heap.get b=some (.cells (n*esz) z t p false)) (hm:(ex=true∧n≤m)∨(ex=false∧m=n∧n≠0)) (hu:∀i,i<n→(g i).cells.length=esz)
   (h:∀i,i<n→∃cs,cellsOf (n*esz) z t esz (i*esz)=some cs∧bA (τ.kill b) cs (g i).cells):ni τ b n g esz (.slice b 0 n m ex esz)
theorem E7 {τ:St}:∀ {vs us:List V},bA τ vs us→vs.length=us.length
 | _,_,.nil=>rfl
 | _,_,.cons _ hl=>congrArg (·+1) (E7 hl)
theorem ni.di {τ:St} {b n esz:Nat} {g:Nat→V} {v:V} (h:ni τ b n g esz v) {ρ ρ':Ren} {w:World} {l:Loc} (hr:R ρ τ w) (hl:ρ b=some l)
  (hz:∀ {vs us:List V} {xs:List Value},bA (τ.kill b) vs us→aB ρ vs xs→aB ρ' us xs):cI ρ' w l (.row n g esz false):=by
 cases h with
 | own hb h=>
  obtain⟨l',cS,cT⟩:=hr.di b _ hb
  rw[hl] at cS;cases cS
  cases cT with
  | row hs hn hu hv hf hp=>
   rename_i f p
   refine .row hs hn (fun i hi=>by rw[←E7 (h i hi)];exact hu i hi) (fun i hi k v hk=>?_) hf (fun h=>by cases h)
   have key:∃xs:List Value,aB ρ (f i).cells xs∧∀(k:Nat) x,xs[k]? =some x→w.cell? ⟨l.c,l.o+(i*esz+k),none⟩=some x:=by
    obtain⟨xs,h1,h2⟩:=pn (ρ:=ρ) (cs:=(f i).cells) (p:=fun k x=>w.cell? ⟨l.c,l.o+(i*esz+k),none⟩=some x) fun k v hk=>hv i hi k v hk
    exact⟨xs,h1,h2⟩
   obtain⟨xs,h1,h2⟩:=key
   obtain⟨x,hx,hr⟩:=aB.get (hz (h i hi) h1) _ hk
   exact⟨x,h2 k x hx,hr⟩
 | slice hb hm hu h=>
  obtain⟨l',cS,cT⟩:=hr.di b _ hb
  rw[hl] at cS;cases cS
  cases cT with
  | cells hs hn hv hf hp=>
   refine .row hs hn hu (fun i hi k v hk=>?_) (hf rfl) (fun h=>by cases h)
   obtain⟨cs,hc,vA⟩:=h i hi
   obtain⟨_,g2⟩:=gJ _ _ hc
   obtain⟨xs,h1,h2⟩:=pn (ρ:=ρ) (cs:=cs) (p:=fun k x=>w.cell? ⟨l.c,l.o+(i*esz+k),none⟩=some x) fun k v hk=>hv _ v (g2 k v hk)
   obtain⟨x,hx,hr⟩:=aB.get (hz vA h1) _ hk
   exact⟨x,h2 k x hx,hr⟩
theorem ni.val {τ:St} {b n esz:Nat} {g:Nat→V} {v:V} (h:ni τ b n g esz v) {ρ ρ':Ren} {x:Value} {i:Nat} (hx:au ρ v x) (hi:∀l,ρ b=some l→ρ' i=some l):au ρ' (.own i n esz) x:=by
 cases h with
 | own hb h=>
  cases hx with
  | own hl hc hN=>exact .own (hi _ hl) hc hN
 | slice hb hm hu h=>
  cases hx with
  | slice hl hex cW hN hn=>
   rcases hm with ⟨rfl,hm⟩ | ⟨rfl,rfl,hm⟩
   ·obtain⟨rfl,rfl⟩:=hex rfl
    exact .own (hi _ hl) hm (by simpa using hN)
   ·obtain⟨h1,h2⟩:=cW rfl
    rcases h2 with h2 | h2
    ·subst h2;exact .own (hi _ hl) h1 (by simpa using hN)
    ·exact absurd h2.1 hm
theorem ni.at {τ:St} {b n esz:Nat} {g:Nat→V} {v:V} (h:ni τ b n g esz v):∃q,τ.heap.get b=some q:=by
 cases h with
 | own hb h=>exact⟨_,hb⟩
 | slice hb hm hu h=>exact⟨_,hb⟩
mutual
theorem ei.fN {σ:St}:∀ {v u:V},ei start v u→ei σ v u
 | _,_,.clean h=>.clean h
 | _,_,.jT h=>.jT h.fN
 | _,_,.arr h hu he hn=>.arr (fun i hi=>(h i hi).fN) hu he hn
 | _,_,.own hb _ _=>by rw[eJ] at hb;cases hb
 | _,_,.int k n=>.int k n
 | _,_,.bool b=>.bool b
 | _,_,.str s=>.str s
 | _,_,.dQ k b=>.dQ k b
 | _,_,.any i=>.any i
 | _,_,.ed=>.ed
 | _,_,.dH=>.dH
 | _,_,.dr=>.dr
 | _,_,.bd=>.bd
 | _,_,.aj=>.aj
 | _,_,.empty e x=>.empty e x
 | _,_,.br h hu hn he=>.br h.fN hu hn he
 | _,_,.aQ h=>.aQ h.fN
 | _,_,.D3 hc _=>by simp [St.cells,eJ] at hc
 | _,_,.func hx hy=>.func hx.fN hy.fN
 | _,_,.slice hc _ _ _=>by simp [St.cells,eJ] at hc
 | _,_,.agg h=>.agg h.fN
 | _,_,.tuple h=>.tuple h.fN
 | _,_,.iface h=>.iface h.fN
theorem bA.fN {σ:St}:∀ {vs us:List V},bA start vs us→bA σ vs us
 | _,_,.nil=>.nil
 | _,_,.cons h hl=>.cons h.fN hl.fN
end
def aK (σ:St) (k:ai) (v:V) (τ:St):Prop:=
 (∃u,ei τ v u∧k u σ)∨
 (∃b n g esz,ni τ b n g esz v∧k (.own σ.next n esz) (σ.new σ.next (.row n g esz false)))∨
 ∃b n g esz w e e',v=.tuple [w,e]∧ni τ b n g esz w∧ei (τ.kill b) e e'∧k (.tuple [.own σ.next n esz,e']) (σ.new σ.next (.row n g esz false))
theorem aK.ex {σ:St} {k:ai} {v:V} {τ:St} (h:aK σ k v τ):∃v σ,k v σ:=by
 rcases h with ⟨u,_,h⟩ | ⟨b,n,g,esz,_,h⟩ | ⟨b,n,g,esz,w,e,e',_,_,_,h⟩
 ·exact⟨_,_,h⟩
 ·exact⟨_,_,h⟩
 ·exact⟨_,_,h⟩
theorem ag.Y5 {f:FuncId} {vs us:List V} {σk σf:St} {k:ai} (hk:∀b q,σk.heap.get b=some q→σ.heap.get b=some q) (hf:∀b q,σf.heap.get b=some q→σ.heap.get b=some q)
  (hd:∀b q q',σk.heap.get b=some q→σf.heap.get b=some q'→False) (hn:σk.next=σ.next) (Sz:σf.next=σ.next) (vA:bA σf vs us) (h:bX P f us (aK σk k) start):ag P f vs k σ:=by
 refine⟨⟨?_,?_⟩⟩
 ·obtain⟨v,τ,hx⟩:=h.ex
  obtain⟨u,σ',hu⟩:=aK.ex hx;exact⟨(.val u,σ'),hu⟩
 ·intro ρ w vs' hr hv
  let G:Nat→Prop:=fun c=>∃b q l,σf.heap.get b=some q∧ρ b=some l∧l.c=c
  let bS:Ren:=⟨fun _=>none,fun c o=>open Classical in if G c then w.cell? ⟨c,o,none⟩ else ρ.aW c o⟩
  have wJ:∀c o x,ρ.aW c o=some x→bS.aW c o=some x:=by
   intro c o x hx
   show(open Classical in if G c then w.cell? ⟨c,o,none⟩ else ρ.aW c o)=some x
   by_cases hg:G c
   ·rw[if_pos hg];exact(hr.aW c o x hx).1
   ·rw[if_neg hg];exact hx
  have rS:∀c o x,bS.aW c o=some x→w.cell? ⟨c,o,none⟩=some x∧(G c∨(ρ.aW c o=some x∧¬G c)):=by
   intro c o x hx
   replace hx:(open Classical in if G c then w.cell? ⟨c,o,none⟩ else ρ.aW c o)=some x:=hx
   by_cases hg:G c
   ·rw[if_pos hg] at hx;exact⟨hx,.inl hg⟩
   ·rw[if_neg hg] at hx;exact⟨(hr.aW c o x hx).1,.inr ⟨hx,hg⟩⟩
  have TO:∀ {ρ:Ren} {c:Nat},¬Wr ρ start c:=fun {_ _} ⟨b,k,l,h,_⟩=>by rw[eJ] at h;cases h
  have y5:R bS start w:=⟨fun b k hb=>(by rw[eJ] at hb;cases hb),fun b b' k k' l l' hb=>(by rw[eJ] at hb;cases hb),fun _ _=>rfl,fun _ _ h=>(by cases h),fun c o x hx=>⟨(rS c o x hx).1,TO⟩,fun q hq=>wJ _ _ _ (hr.laid q hq)⟩
  have y0:aB bS us vs':=ft (hr.sub hf Sz) wJ (fun b k l hb hl o x hx=>by
   show(open Classical in if G l.c then w.cell? ⟨l.c,o,none⟩ else ρ.aW l.c o)=some x
   rw[if_pos ⟨b,k,l,hb,hl,rfl⟩];exact hx) vA hv
  obtain⟨g1,g2⟩:=h.h bS w vs' y5 y0
  refine⟨g1,g2.mono fun e w' hx=>?_⟩
  obtain⟨v,τ,ct,v',hq,rfl,pC,aH⟩:=hx
  have hold:∀c,c<w.heap.size→w'.heap[c]? =w.heap[c]? :=fun c hc=>aH.aV c hc TO
  have gn:∀b q l,τ.heap.get b=some q→ct b=some l→¬l.c<w.heap.size:=fun b q l hb hl hc=>TO (aH.wr l.c hc ⟨b,q,l,hb,rfl,hl,rfl⟩)
  have TP:∀c o x,c<w.heap.size→ct.aW c o=some x→bS.aW c o=some x:=by
   intro c o x hc hx
   rcases aH.iG c o x hx with h1 | h1 | h1
   ·exact h1
   ·omega
   ·exact absurd h1 TO
  have hGk:∀c o x,bS.aW c o=some x→¬Wr ρ σk c:=by
   rintro c o x hx ⟨b,q,l,h1,_,h3,h4⟩
   rcases(rS c o x hx).2 with ⟨b',q',l',e1,e2,e3⟩ | ⟨e1,_⟩
   ·have:=hr.inj b b' q q' l l' (hk _ _ h1) (hf _ _ e1) h3 e2 (h4.trans e3.symm)
    subst this
    exact hd _ _ _ h1 e1
   ·exact(hr.aW c o x e1).2 ⟨b,q,l,hk _ _ h1,rfl,h3,h4⟩
  have hGw:∀c o x,bS.aW c o=some x→ρ.aW c o=some x∨w.heap.size≤c∨Wr ρ σ c:=by
   intro c o x hx
   rcases(rS c o x hx).2 with ⟨b',q',l',e1,e2,e3⟩ | ⟨e1,_⟩
   ·exact .inr (.inr ⟨b',q',l',hf _ _ e1,rfl,e2,e3⟩)
   ·exact .inl e1
  have bI:∀b l,ρ b=some l→b<σ.next:=fun b l hb=>Nat.lt_of_not_le fun hle=>by rw[hr.fresh b hle] at hb;cases hb
  have row:∀ {b n esz:Nat} {g:Nat→V} {u:V},ni τ b n g esz u→∃bC:Ren,bn qh ρ σ w bC (σk.new σk.next (.row n g esz false)) w'∧(∀x,au ct u x→au bC (.own σk.next n esz) x)∧∀ {e e':V} {x:Value},ei (τ.kill b) e e'→au ct e x→au bC e' x:=by
   intro b n esz g u sD
   obtain⟨q,hb⟩:=sD.at
   obtain⟨cr,fR,_⟩:=aH.r.di b q hb
   have zq:=gn b q cr hb fR
   have Y6:=aH.r.valid b cr fR
   let bC:Ren:=⟨fun i=>if i=σk.next then some cr else ρ i,fun c o=>if c<w.heap.size then bS.aW c o else if c=cr.c then none else w'.cell? ⟨c,o,none⟩⟩
   have CK:∀i l,bC i=some l→(i=σk.next∧l=cr)∨ρ i=some l:=by
    intro i l hi
    replace hi:(if i=σk.next then some cr else ρ i)=some l:=hi
    by_cases e:i=σk.next
    ·rw[if_pos e] at hi;cases hi;exact .inl ⟨e,rfl⟩
    ·rw[if_neg e] at hi;exact .inr hi
   have Jl:∀c o x,ct.aW c o=some x→bC.aW c o=some x:=by
    intro c o x hx
    show(if c<w.heap.size then bS.aW c o else if c=cr.c then none else w'.cell? ⟨c,o,none⟩)=some x
    by_cases hc:c<w.heap.size
    ·rw[if_pos hc];exact TP c o x hc hx
    ·have h2:=aH.r.aW c o x hx
     rw[if_neg hc,if_neg fun e=>h2.2 ⟨b,q,cr,hb,rfl,fR,e.symm⟩];exact h2.1
   have hle:ρ.le bC:=⟨fun i l hi=>by
    show(if i=σk.next then some cr else ρ i)=some l
    rw[if_neg fun e=>by have:=bI i l hi;omega];exact hi,fun c o x hx=>by
    show(if c<w.heap.size then bS.aW c o else _)=some x
    rw[if_pos (gy (hr.aW c o x hx).1)];exact wJ c o x hx⟩
   have TQ:R ct (τ.kill b) w':=aH.r.sub (fun c k hc=>by
    rw[iI] at hc
    by_cases e:c=b
    ·rw[if_pos e] at hc;cases hc
    ·rw[if_neg e] at hc;exact hc) rfl
   have hblk:∀b' k l,(τ.kill b).heap.get b'=some k→ct b'=some l→∀o x,w'.cell? ⟨l.c,o,none⟩=some x→bC.aW l.c o=some x:=by
    intro b' k l bG hl o x hx
    rw[iI] at bG
    by_cases e:b'=b
    ·rw[if_pos e] at bG;cases bG
    ·rw[if_neg e] at bG
     show(if l.c<w.heap.size then bS.aW l.c o else if l.c=cr.c then none else w'.cell? ⟨l.c,o,none⟩)=some x
     rw[if_neg (gn b' k l bG hl),if_neg fun h=>e (aH.r.inj b' b k q l cr bG hb hl fR h)]
     exact hx
   refine⟨bC,⟨⟨fun i k hi=>?_,fun i j k k' l l' h1 h2 g1 g2 e=>?_,fun i hi=>?_,fun i l hi=>?_,fun c o x hx=>?_,hr.vZ hle⟩,hle,?_,fun i l hi=>?_,aH.size,aH.os,aH.tape,aH.output,fun c hc _=>hold c hc,fun c hc hw=>?_,fun i k hi=>?_,fun c o x hx=>?_⟩,fun x hx=>sD.val hx fun l hl=>?_,fun he hx=>o8 TQ Jl hblk he hx⟩
   ·rw[ia] at hi
    by_cases e:i=σk.next
    ·rw[if_pos e] at hi;cases hi
     exact⟨cr,if_pos e,sD.di aH.r fR fun hz hx=>ft TQ Jl hblk hz hx⟩
    ·rw[if_neg e] at hi
     obtain⟨l,hl,cT⟩:=hr.di i k (hk _ _ hi)
     exact⟨l,hle i l hl,cT.same hle (hold l.c (hr.valid i l hl))⟩
   ·rw[ia] at h1 h2
    by_cases e1:i=σk.next
    ·by_cases e2:j=σk.next
     ·rw[e1,e2]
     ·rw[if_neg e2] at h2
      have BR:(if i=σk.next then some cr else ρ i)=some l:=g1
      have xc:(if j=σk.next then some cr else ρ j)=some l':=g2
      rw[if_pos e1] at BR;rw[if_neg e2] at xc
      cases BR
      exact absurd (by rw[e];exact hr.valid j l' xc) zq
    ·rw[if_neg e1] at h1
     have BR:(if i=σk.next then some cr else ρ i)=some l:=g1
     rw[if_neg e1] at BR
     by_cases e2:j=σk.next
     ·have xc:(if j=σk.next then some cr else ρ j)=some l':=g2
      rw[if_pos e2] at xc;cases xc
      exact absurd (by rw[←e];exact hr.valid i l BR) zq
     ·rw[if_neg e2] at h2
      have xc:(if j=σk.next then some cr else ρ j)=some l':=g2
      rw[if_neg e2] at xc
      exact hr.inj i j k k' l l' (hk _ _ h1) (hk _ _ h2) BR xc e
   ·rw[qv] at hi
    show(if i=σk.next then some cr else ρ i)=none
    rw[if_neg (by omega)]
    exact hr.fresh i (by omega)
   ·rcases CK i l hi with ⟨_,rfl⟩ | hi
    ·exact Y6
    ·exact Nat.lt_of_lt_of_le (hr.valid i l hi) aH.size
   ·replace hx:(if c<w.heap.size then bS.aW c o else if c=cr.c then none else w'.cell? ⟨c,o,none⟩)=some x:=hx
    have wr:Wr bC (σk.new σk.next (.row n g esz false)) c→c=cr.c∨Wr ρ σk c:=by
     rintro⟨i,k,l,h1,_,h3,h4⟩
     rw[ia] at h1
     rcases CK i l h3 with ⟨_,rfl⟩ | Oj
     ·exact .inl h4.symm
     ·by_cases e:i=σk.next
      ·have:=bI i l Oj;omega
      ·rw[if_neg e] at h1
       exact .inr ⟨i,k,l,h1,rfl,Oj,h4⟩
    by_cases hc:c<w.heap.size
    ·rw[if_pos hc] at hx
     refine⟨by rw[cell?_of_block (hold c hc)];exact(rS c o x hx).1,fun hw=>?_⟩
     rcases wr hw with h1 | h1
     ·exact zq (by rw[←h1];exact hc)
     ·exact hGk c o x hx h1
    ·rw[if_neg hc] at hx
     by_cases gh:c=cr.c
     ·rw[if_pos gh] at hx;cases hx
     ·rw[if_neg gh] at hx
      refine⟨hx,fun hw=>?_⟩
      rcases wr hw with h1 | ⟨i,k,l,_,_,h3,h4⟩
      ·exact gh h1
      ·exact hc (by rw[←h4];exact hr.valid i l h3)
   ·rw[qv];omega
   ·rcases CK i l hi with ⟨rfl,_⟩ | hi
    ·exact .inr (.inl (by omega))
    ·exact .inl hi
   ·obtain⟨i,k,l,h1,_,h3,h4⟩:=hw
    rw[ia] at h1
    rcases CK i l h3 with ⟨_,rfl⟩ | Oj
    ·exact absurd (by rw[h4];exact hc) zq
    ·by_cases e:i=σk.next
     ·have:=bI i l Oj;omega
     ·rw[if_neg e] at h1
      exact⟨i,k,l,hk _ _ h1,rfl,Oj,h4⟩
   ·rw[ia] at hi
    by_cases e:i=σk.next
    ·exact .inr (.inl (by omega))
    ·rw[if_neg e] at hi;exact .inl ⟨k,hk _ _ hi⟩
   ·replace hx:(if c<w.heap.size then bS.aW c o else if c=cr.c then none else w'.cell? ⟨c,o,none⟩)=some x:=hx
    by_cases hc:c<w.heap.size
    ·rw[if_pos hc] at hx;exact hGw c o x hx
    ·exact .inr (.inl (Nat.le_of_not_lt hc))
   ·rw[fR] at hl;cases hl
    exact if_pos rfl
  rcases hq with ⟨u,w4,Ol⟩ | ⟨b,n,g,esz,sD,Ol⟩ | ⟨b,n,g,esz,u,e,e',rfl,sD,he,Ol⟩
  ·let bC:Ren:=⟨ρ.at',fun c o=>if c<w.heap.size then bS.aW c o else w'.cell? ⟨c,o,none⟩⟩
   have hle:ρ.le bC:=⟨fun b l hb=>hb,fun c o x hx=>by
    show(if c<w.heap.size then bS.aW c o else _)=some x
    rw[if_pos (gy (hr.aW c o x hx).1)];exact wJ c o x hx⟩
   have Ed:∀c o x,ct.aW c o=some x→bC.aW c o=some x:=by
    intro c o x hx
    show(if c<w.heap.size then bS.aW c o else _)=some x
    by_cases hc:c<w.heap.size
    ·rw[if_pos hc];exact TP c o x hc hx
    ·rw[if_neg hc];exact(aH.r.aW c o x hx).1
   have hblk:∀b q l,τ.heap.get b=some q→ct b=some l→∀o x,w'.cell? ⟨l.c,o,none⟩=some x→bC.aW l.c o=some x:=by
    intro b q l hb hl o x hx
    show(if l.c<w.heap.size then bS.aW l.c o else _)=some x
    rw[if_neg (gn b q l hb hl)]
    exact hx
   refine⟨u,σk,bC,v',Ol,rfl,o8 aH.r Ed hblk w4 pC,⟨⟨fun b q hb=>?_,fun i j k k' l l' h1 h2 g1 g2 e=>hr.inj i j k k' l l' (hk _ _ h1) (hk _ _ h2) g1 g2 e,fun i hi=>hr.fresh i (by omega),fun b l hb=>Nat.lt_of_lt_of_le (hr.valid b l hb) aH.size,fun c o x hx=>?_,hr.vZ hle⟩,hle,by omega,fun b l hb=>.inl hb,aH.size,aH.os,aH.tape,aH.output,
    fun c hc _=>hold c hc,fun c _ ⟨i,q,l,h1,_,h3,h4⟩=>⟨i,q,l,hk _ _ h1,rfl,h3,h4⟩,fun b q hb=>.inl ⟨q,hk _ _ hb⟩,fun c o x hx=>?_⟩⟩
   ·obtain⟨l,hl,cT⟩:=hr.di b q (hk _ _ hb)
    exact⟨l,hl,cT.same hle (hold l.c (hr.valid b l hl))⟩
   ·replace hx:(if c<w.heap.size then bS.aW c o else w'.cell? ⟨c,o,none⟩)=some x:=hx
    by_cases hc:c<w.heap.size
    ·rw[if_pos hc] at hx
     exact⟨by rw[cell?_of_block (hold c hc)];exact(rS c o x hx).1,hGk c o x hx⟩
    ·rw[if_neg hc] at hx
     refine⟨hx,?_⟩
     rintro⟨b,q,l,_,_,h3,h4⟩
     exact hc (by rw[←h4];exact hr.valid b l h3)
   ·replace hx:(if c<w.heap.size then bS.aW c o else w'.cell? ⟨c,o,none⟩)=some x:=hx
    by_cases hc:c<w.heap.size
    ·rw[if_pos hc] at hx;exact hGw c o x hx
    ·exact .inr (.inl (Nat.le_of_not_lt hc))
  ·obtain⟨bC,h1,h2,_⟩:=row sD
   exact⟨_,_,bC,v',Ol,rfl,h2 _ pC,h1⟩
  ·obtain⟨bC,h1,h2,h3⟩:=row sD
   cases pC with
   | tuple pC=>
    cases pC with
    | cons ha hb=>
     cases hb with
     | cons hb hc=>
      cases hc
      exact⟨_,_,bC,_,Ol,rfl,.tuple (.cons (h2 _ ha) (.cons (h3 he hb) .nil)),h1⟩
theorem ag.aV {f:FuncId} {vs us:List V} {k:ai} (vA:bA start vs us) (h:bX P f us (aK σ k) start):ag P f vs k σ:=
 ag.Y5 (σk:=σ) (σf:=void σ.next) (fun _ _ h=>h) (fun b q h=>by rw[sS] at h;cases h) (fun b q q' _ h=>by rw[sS] at h;cases h) rfl rfl (bA.fN vA) h
theorem ag.lX {f:FuncId} {vs us:List V} {k:ai} (vA:bA σ vs us) (h:bX P f us (aK (void σ.next) k) start):ag P f vs k σ:=
 ag.Y5 (σk:=void σ.next) (σf:=σ) (fun b q h=>by rw[sS] at h;cases h) (fun _ _ h=>h) (fun b q q' h=>by rw[sS] at h;cases h) rfl rfl vA h
theorem bX.imp {f:FuncId} {vs us:List V} {Q:ai} (hi:∀ρ xs,aB ρ vs xs→aB ρ us xs) (h:bX P f us Q σ):bX P f vs Q σ:=
 ⟨h.ex,fun ρ w vs' hr hv=>h.h ρ w vs' hr (hi ρ vs' hv)⟩
noncomputable def aU (q:b9):St:=⟨Trie.put .leaf 0 (some q),1⟩
omit [Env] in
theorem QX {q k:b9} {i:Nat} (h:(aU q).heap.get i=some k):i=0∧k=q:=by
 have h':(Trie.put .leaf 0 (some q)).get i=some k:=h
 rw[Trie.bY] at h'
 by_cases e:i=0
 ·rw[if_pos e] at h';cases h';exact⟨e,rfl⟩
 ·rw[if_neg e,Trie.eU] at h';cases h'
theorem ag.ag6 {f:FuncId} {cs:List V} {b n esz:Nat} {g:Nat→V} {p:Bool} {es:List V} {A:Nat→(Nat→V)→Prop} {k:ai} (hb:σ.heap.get b=some (.row n g esz p)) (hu:∀i,i<n→(g i).cells.length=esz) (hg:∀i,i<n→∀u∈(g i).cells,Clean u)
  (he:es=aw (cj n g)) (dI:∀v∈cs,Clean v) (h:bX P f (.slice 0 0 n n false esz::cs) (eS esz A) (aU (.cells (n*esz) [] (ah es .leaf 0) false false))) (hk:∀n g,A n g→k (.own σ.next n esz) ((σ.kill b).new σ.next (.row n g esz false))):ag P f (.own b n esz::cs) k σ:=
 ag.frame (m:=fun i=>if i=0 then some b else none) (σ₀:=aU (.cells (n*esz) [] (ah es .leaf 0) false false)) (fun i j c h1 h2=>by
   by_cases e1:i=0
   ·by_cases e2:j=0
    ·rw[e1,e2]
    ·simp only[if_neg e2] at h2;cases h2
   ·simp only[if_neg e1] at h1;cases h1)
  (fun i hi=>if_neg (by have:1≤i:=hi;omega))
  (fun i k hi=>by
   obtain⟨rfl,rfl⟩:=QX hi
   refine⟨b,_,if_pos rfl,hb,.ofRow fun i v hv=>?_⟩
   subst he
   rcases gl hv with ⟨_,h2,h3⟩ | ⟨_,h2⟩
   ·rw[Nat.sub_zero] at h3
    have cP:=gB hu
    have bI:i<n*esz:=by
     have:=(List.getElem?_eq_some_iff.1 h3).1
     rwa [c8 cP,aY] at this
    have h0:0<esz:=by
     rcases Nat.eq_zero_or_pos esz with h | h
     ·subst h;simp at bI
     ·exact h
    have hi:i/esz<n:=(Nat.div_lt_iff_lt_mul h0).2 bI
    have fB:i%esz<esz:=Nat.mod_lt _ h0
    have e:i/esz*esz+i%esz=i:=by rw[Nat.mul_comm];exact Nat.div_add_mod i esz
    have NV:=gp cP (dt (f:=g) hi) fB
    rw[e,h3] at NV
    exact⟨_,_,v,hi,e.symm,NV.symm,.clean (hg _ hi v (List.mem_of_getElem? NV.symm))⟩
   ·unfold cellOf at h2
    split at h2
    ·rw[Trie.eU] at h2;simp [dG] at h2
    ·cases h2)
  (.cons (.S8 (if_pos rfl)) (e8.clean dI)) h
  (XU (κ:=σ.kill b) (fun i k hi=>by
   rw[iI] at hi
   by_cases e:i=b
   ·rw[if_pos e] at hi;cases hi
   ·rw[if_neg e] at hi
    refine⟨hi,fun j k' _ hj=>?_⟩
    by_cases ej:j=0
    ·simp only[if_pos ej] at hj;cases hj;exact e rfl
    ·simp only[if_neg ej] at hj;cases hj) rfl hk)
end
end Go.Ev
end
