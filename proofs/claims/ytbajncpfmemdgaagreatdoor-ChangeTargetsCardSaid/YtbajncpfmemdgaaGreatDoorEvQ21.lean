/- Proved: parts of the way: BEq17, BC6, Give. -/
import Derived.Test.YtbajncpfmemdgaaGreatDoorEvQ20
import Derived.Test.YtbajncpfmemdgaaGreatDoorEvQ16
section
namespace Go.Proofs.YtbajncpfmemdgaaGreatDoor
open Go Go.Ev
def JN:Nat→List Nat:=(fun _=>[])
theorem ahn [Env] (A:Nat→List SV→Prop) (Q:V→Prop) (x y:az):WE Tryz.prog 212 Tryz.f212 Mr 0 JN A (fun v _=>Q v) [az.enc x,az.enc y] Go.Ev.start=
  (((.i64:IntKind)=.i64∧aa (decide (x.f0=y.f0)) (((.i64:IntKind)=.i64∧aa (decide (x.f1=y.f1)) (((.u64:IntKind)=.u64∧aa (decide (x.f2=y.f2)) (aa (decide (x.f3=y.f3)) (Q (.bool true)) (Q (.bool false))) (Q (.bool false)))) (Q (.bool false)))) (Q (.bool false)))):=by kernel_rfl
def Zr [Env] (vs:List V) (σ:St) (k:ah):Prop:=
 ∃x y:az,vs=[az.enc x,az.enc y]∧∀b:Bool,(b=true↔x=y)→k (.bool b) σ
def ym [Env]:=kS 212 Zr Mr
def sy:Nat→List Nat:=(fun _=>[])
abbrev Zs [Env] (A:Nat→List SV→Prop) (Q:V→Prop) (a b:List UInt8) (c d:Int) (u v:az):Prop:=
 (aa ((false==false)==true) (aa ((false==false)==true) (aa ((false==false)==true) ((∃b0 b1:az,[.tuple [],.agg [.int .i64 v.f0,.int .i64 v.f1,.int .u64 v.f2,.str v.f3]]=[az.enc b0,az.enc b1]∧∀b2:Bool,(b2=true↔b0=b1)→aa (false==false) (Q (.bool b2)) (Q (.bool false)))) (aa (false==false) (Q (.tuple [])) (Q (.bool false)))) (aa ((false==false)==true) ((∃b3 b4:az,[.tuple [],.tuple []]=[az.enc b3,az.enc b4]∧∀b5:Bool,(b5=true↔b3=b4)→aa (false==false) (Q (.bool b5)) (Q (.bool false)))) (aa (false==false) (Q (.tuple [])) (Q (.bool false))))) (aa ((false==false)==true) False (aa ((false==false)==true) ((∃b6 b7:az,[.tuple [],.tuple []]=[az.enc b6,az.enc b7]∧∀b8:Bool,(b8=true↔b6=b7)→aa (false==false) (Q (.bool b8)) (Q (.bool false)))) (aa (false==false) (Q (.tuple [])) (Q (.bool false))))))
abbrev Zt [Env] (A:Nat→List SV→Prop) (Q:V→Prop) (a b:List UInt8) (c d:Int) (u v:az):Prop:=
 (aa ((false==true)==true) (aa ((false==true)==true) (aa ((false==true)==true) ((∃b0 b1:az,[.tuple [],.agg [.int .i64 v.f0,.int .i64 v.f1,.int .u64 v.f2,.str v.f3]]=[az.enc b0,az.enc b1]∧∀b2:Bool,(b2=true↔b0=b1)→aa (false==true) (Q (.bool b2)) (Q (.bool false)))) (aa (false==true) (Q (.tuple [])) (Q (.bool false)))) (aa ((false==true)==true) ((∃b3 b4:az,[.tuple [],.tuple []]=[az.enc b3,az.enc b4]∧∀b5:Bool,(b5=true↔b3=b4)→aa (false==true) (Q (.bool b5)) (Q (.bool false)))) (aa (false==true) (Q (.tuple [])) (Q (.bool false))))) (aa ((false==true)==true) False (aa ((false==true)==true) ((∃b6 b7:az,[.tuple [],.tuple []]=[az.enc b6,az.enc b7]∧∀b8:Bool,(b8=true↔b6=b7)→aa (false==true) (Q (.bool b8)) (Q (.bool false)))) (aa (false==true) (Q (.tuple [])) (Q (.bool false))))))
abbrev Zu [Env] (A:Nat→List SV→Prop) (Q:V→Prop) (a b:List UInt8) (c d:Int) (u v:az):Prop:=
 (aa ((true==false)==true) (aa ((true==false)==true) (aa ((true==false)==true) ((∃b0 b1:az,[.tuple [],.agg [.int .i64 v.f0,.int .i64 v.f1,.int .u64 v.f2,.str v.f3]]=[az.enc b0,az.enc b1]∧∀b2:Bool,(b2=true↔b0=b1)→aa (true==false) (Q (.bool b2)) (Q (.bool false)))) (aa (true==false) (Q (.tuple [])) (Q (.bool false)))) (aa ((true==false)==true) ((∃b3 b4:az,[.tuple [],.tuple []]=[az.enc b3,az.enc b4]∧∀b5:Bool,(b5=true↔b3=b4)→aa (true==false) (Q (.bool b5)) (Q (.bool false)))) (aa (true==false) (Q (.tuple [])) (Q (.bool false))))) (aa ((true==false)==true) False (aa ((true==false)==true) ((∃b6 b7:az,[.tuple [],.tuple []]=[az.enc b6,az.enc b7]∧∀b8:Bool,(b8=true↔b6=b7)→aa (true==false) (Q (.bool b8)) (Q (.bool false)))) (aa (true==false) (Q (.tuple [])) (Q (.bool false))))))
abbrev Zv [Env] (A:Nat→List SV→Prop) (Q:V→Prop) (a b:List UInt8) (c d:Int) (u v:az):Prop:=
 (aa ((true==true)==true) (aa ((true==true)==true) (aa ((true==true)==true) ((∃b0 b1:az,[.tuple [],.agg [.int .i64 v.f0,.int .i64 v.f1,.int .u64 v.f2,.str v.f3]]=[az.enc b0,az.enc b1]∧∀b2:Bool,(b2=true↔b0=b1)→aa (true==true) (Q (.bool b2)) (Q (.bool false)))) (aa (true==true) (Q (.tuple [])) (Q (.bool false)))) (aa ((true==true)==true) ((∃b3 b4:az,[.tuple [],.tuple []]=[az.enc b3,az.enc b4]∧∀b5:Bool,(b5=true↔b3=b4)→aa (true==true) (Q (.bool b5)) (Q (.bool false)))) (aa (true==true) (Q (.tuple [])) (Q (.bool false))))) (aa ((true==true)==true) False (aa ((true==true)==true) ((∃b6 b7:az,[.tuple [],.tuple []]=[az.enc b6,az.enc b7]∧∀b8:Bool,(b8=true↔b6=b7)→aa (true==true) (Q (.bool b8)) (Q (.bool false)))) (aa (true==true) (Q (.tuple [])) (Q (.bool false))))))
abbrev Zw [Env] (A:Nat→List SV→Prop) (Q:V→Prop) (a b:List UInt8) (c d:Int) (u v:az):Prop:=
 (aa ((false==false)==true) ((∃b0 b1:az,[.agg [.int .i64 u.f0,.int .i64 u.f1,.int .u64 u.f2,.str u.f3],.tuple []]=[az.enc b0,az.enc b1]∧∀b2:Bool,(b2=true↔b0=b1)→aa (false==false) (Q (.bool b2)) (Q (.bool false)))) (aa (false==false) (Q (.tuple [])) (Q (.bool false))))
theorem Wk [Env] (A:Nat→List SV→Prop) (Q:V→Prop) (a b:List UInt8) (c d:Int) (u v:az):WE Tryz.prog 164 Tryz.f164 ym 0 sy A (fun v _=>Q v) [.agg [.str a,.int .i64 c,.bool true,.int .i64 u.f0,.int .i64 u.f1,.int .u64 u.f2,.str u.f3],.agg [.str b,.int .i64 d,.bool true,.int .i64 v.f0,.int .i64 v.f1,.int .u64 v.f2,.str v.f3]] Go.Ev.start=
  (aa (decide (a=b)) (((.i64:IntKind)=.i64∧aa (decide (c=d)) (aa ((true==true)==true) (aa ((true==true)==true) (aa ((true==true)==true) (aa ((true==true)==true) (aa ((true==true)==true) ((∃q30 q31:az,[.agg [.int .i64 u.f0,.int .i64 u.f1,.int .u64 u.f2,.str u.f3],.agg [.int .i64 v.f0,.int .i64 v.f1,.int .u64 v.f2,.str v.f3]]=[az.enc q30,az.enc q31]∧∀Uy:Bool,(Uy=true↔q30=q31)→aa (true==true) (Q (.bool Uy)) (Q (.bool false)))) (aa (true==true) (Q (.tuple [])) (Q (.bool false)))) (aa ((true==true)==true) ((∃q33 q34:az,[.agg [.int .i64 u.f0,.int .i64 u.f1,.int .u64 u.f2,.str u.f3],.tuple []]=[az.enc q33,az.enc q34]∧∀Uz:Bool,(Uz=true↔q33=q34)→aa (true==true) (Q (.bool Uz)) (Q (.bool false)))) (aa (true==true) (Q (.tuple [])) (Q (.bool false))))) (aa ((true==true)==true) False (aa ((true==true)==true) ((∃q36 q37:az,[.agg [.int .i64 u.f0,.int .i64 u.f1,.int .u64 u.f2,.str u.f3],.tuple []]=[az.enc q36,az.enc q37]∧∀Uv:Bool,(Uv=true↔q36=q37)→aa (true==true) (Q (.bool Uv)) (Q (.bool false)))) (aa (true==true) (Q (.tuple [])) (Q (.bool false)))))) (Zv A Q a b c d u v)) (aa ((true==true)==true) False (Zv A Q a b c d u v))) (Q (.bool false)))) (Q (.bool false))):=by kernel_rfl
theorem Wl [Env] (A:Nat→List SV→Prop) (Q:V→Prop) (a b:List UInt8) (c d:Int) (u v:az):WE Tryz.prog 164 Tryz.f164 ym 0 sy A (fun v _=>Q v) [.agg [.str a,.int .i64 c,.bool true,.int .i64 u.f0,.int .i64 u.f1,.int .u64 u.f2,.str u.f3],.agg [.str b,.int .i64 d,.bool false,.int .i64 v.f0,.int .i64 v.f1,.int .u64 v.f2,.str v.f3]] Go.Ev.start=
  (aa (decide (a=b)) (((.i64:IntKind)=.i64∧aa (decide (c=d)) (aa ((true==false)==true) (aa ((true==false)==true) (aa ((true==false)==true) (aa ((true==false)==true) (aa ((true==false)==true) ((∃q57 q58:az,[.agg [.int .i64 u.f0,.int .i64 u.f1,.int .u64 u.f2,.str u.f3],.agg [.int .i64 v.f0,.int .i64 v.f1,.int .u64 v.f2,.str v.f3]]=[az.enc q57,az.enc q58]∧∀e59:Bool,(e59=true↔q57=q58)→aa (true==false) (Q (.bool e59)) (Q (.bool false)))) (aa (true==false) (Q (.tuple [])) (Q (.bool false)))) (aa ((true==false)==true) ((∃q60 q61:az,[.agg [.int .i64 u.f0,.int .i64 u.f1,.int .u64 u.f2,.str u.f3],.tuple []]=[az.enc q60,az.enc q61]∧∀e62:Bool,(e62=true↔q60=q61)→aa (true==false) (Q (.bool e62)) (Q (.bool false)))) (aa (true==false) (Q (.tuple [])) (Q (.bool false))))) (aa ((true==false)==true) False (aa ((true==false)==true) ((∃q63 q64:az,[.agg [.int .i64 u.f0,.int .i64 u.f1,.int .u64 u.f2,.str u.f3],.tuple []]=[az.enc q63,az.enc q64]∧∀e65:Bool,(e65=true↔q63=q64)→aa (true==false) (Q (.bool e65)) (Q (.bool false)))) (aa (true==false) (Q (.tuple [])) (Q (.bool false)))))) (Zu A Q a b c d u v)) (aa ((true==false)==true) False (Zu A Q a b c d u v))) (Q (.bool false)))) (Q (.bool false))):=by kernel_rfl
theorem Wm [Env] (A:Nat→List SV→Prop) (Q:V→Prop) (a b:List UInt8) (c d:Int) (u v:az):WE Tryz.prog 164 Tryz.f164 ym 0 sy A (fun v _=>Q v) [.agg [.str a,.int .i64 c,.bool false,.int .i64 u.f0,.int .i64 u.f1,.int .u64 u.f2,.str u.f3],.agg [.str b,.int .i64 d,.bool true,.int .i64 v.f0,.int .i64 v.f1,.int .u64 v.f2,.str v.f3]] Go.Ev.start=
  (aa (decide (a=b)) (((.i64:IntKind)=.i64∧aa (decide (c=d)) (aa ((false==true)==true) (aa ((false==true)==true) (aa ((false==true)==true) (aa ((false==true)==true) (aa ((false==true)==true) ((∃q84 q85:az,[.agg [.int .i64 u.f0,.int .i64 u.f1,.int .u64 u.f2,.str u.f3],.agg [.int .i64 v.f0,.int .i64 v.f1,.int .u64 v.f2,.str v.f3]]=[az.enc q84,az.enc q85]∧∀e86:Bool,(e86=true↔q84=q85)→aa (false==true) (Q (.bool e86)) (Q (.bool false)))) (aa (false==true) (Q (.tuple [])) (Q (.bool false)))) (aa ((false==true)==true) ((∃q87 q88:az,[.agg [.int .i64 u.f0,.int .i64 u.f1,.int .u64 u.f2,.str u.f3],.tuple []]=[az.enc q87,az.enc q88]∧∀e89:Bool,(e89=true↔q87=q88)→aa (false==true) (Q (.bool e89)) (Q (.bool false)))) (aa (false==true) (Q (.tuple [])) (Q (.bool false))))) (aa ((false==true)==true) False (aa ((false==true)==true) ((∃q90 q91:az,[.agg [.int .i64 u.f0,.int .i64 u.f1,.int .u64 u.f2,.str u.f3],.tuple []]=[az.enc q90,az.enc q91]∧∀e92:Bool,(e92=true↔q90=q91)→aa (false==true) (Q (.bool e92)) (Q (.bool false)))) (aa (false==true) (Q (.tuple [])) (Q (.bool false)))))) (Zt A Q a b c d u v)) (aa ((false==true)==true) False (Zt A Q a b c d u v))) (Q (.bool false)))) (Q (.bool false))):=by kernel_rfl
theorem Wn [Env] (A:Nat→List SV→Prop) (Q:V→Prop) (a b:List UInt8) (c d:Int) (u v:az):WE Tryz.prog 164 Tryz.f164 ym 0 sy A (fun v _=>Q v) [.agg [.str a,.int .i64 c,.bool false,.int .i64 u.f0,.int .i64 u.f1,.int .u64 u.f2,.str u.f3],.agg [.str b,.int .i64 d,.bool false,.int .i64 v.f0,.int .i64 v.f1,.int .u64 v.f2,.str v.f3]] Go.Ev.start=
  (aa (decide (a=b)) (((.i64:IntKind)=.i64∧aa (decide (c=d)) (aa ((false==false)==true) (aa ((false==false)==true) (aa ((false==false)==true) (aa ((false==false)==true) (aa ((false==false)==true) ((∃Zx Zy:az,[.agg [.int .i64 u.f0,.int .i64 u.f1,.int .u64 u.f2,.str u.f3],.agg [.int .i64 v.f0,.int .i64 v.f1,.int .u64 v.f2,.str v.f3]]=[az.enc Zx,az.enc Zy]∧∀Zz:Bool,(Zz=true↔Zx=Zy)→aa (false==false) (Q (.bool Zz)) (Q (.bool false)))) (aa (false==false) (Q (.tuple [])) (Q (.bool false)))) (Zw A Q a b c d u v)) (aa ((false==false)==true) False (Zw A Q a b c d u v))) (Zs A Q a b c d u v)) (aa ((false==false)==true) False (Zs A Q a b c d u v))) (Q (.bool false)))) (Q (.bool false))):=by kernel_rfl
def ZA [Env] (vs:List V) (σ:St) (k:ah):Prop:=
 ∃x y:aj,vs=[aj.enc x,aj.enc y]∧∀b:Bool,(b=true↔x=y)→k (.bool b) σ
def FP [Env]:=kS 164 ZA ym
def Bw:Nat→List Nat:=(fun i=>match i with | 0=>[0,1,5] | _=>[])
theorem aho [Env] (A:Nat→List SV→Prop) (Q:V→Prop) (l m:List aj):WE Tryz.prog 129 Tryz.f129 FP 0 Bw A (fun v _=>Q v) [ae aj.enc 7 l,ae aj.enc 7 m] Go.Ev.start=
  (((.i64:IntKind)=.i64∧aa (decide ((((l.length:Nat):Int))≠(((m.length:Nat):Int)))) (Q (.bool false)) (A 0 [.val (ae aj.enc 7 l),.val (ae aj.enc 7 m),.val (.int .i64 (0:Int))]))):=by kernel_rfl
theorem ahp [Env] (A:Nat→List SV→Prop) (Q:V→Prop) (l m:List aj) (i:Int):WL Tryz.prog 129 Tryz.f129 FP 0 Bw A (fun v _=>Q v) 0 [.val (ae aj.enc 7 l),.val (ae aj.enc 7 m),.val (.int .i64 i)]=
  (((.i64:IntKind)=.i64∧aa (decide (i<(((l.length:Nat):Int)))) (((0≤i∧i<((l.length:Nat):Int))∧((0≤i∧i<((m.length:Nat):Int))∧(∃ZC ZD:aj,[aj.enc (l.getD i.toNat default),aj.enc (m.getD i.toNat default)]=[aj.enc ZC,aj.enc ZD]∧∀ZE:Bool,(ZE=true↔ZC=ZD)→aa ((!ZE)) (Q (.bool false)) (A 0 [.val (ae aj.enc 7 l),.val (ae aj.enc 7 m),.val (.int .i64 (IntKind.i64.wrap (i+(1:Int))))]))))) (Q (.bool true)))):=by kernel_rfl
def ZF [Env] (vs:List V) (σ:St) (k:ah):Prop:=
 ∃x y:List aj,vs=[ae aj.enc 7 x,ae aj.enc 7 y]∧x.length≤1000000∧∀b:Bool,(b=true↔x=y)→k (.bool b) σ
def Ms [Env]:=kS 129 ZF FP
def O3:Nat→List Nat:=(fun _=>[])
theorem e76 [Env] (A:Nat→List SV→Prop) (Q:V→Prop) (x y:af):WE Tryz.prog 76 Tryz.f76 Ms 0 O3 A (fun v _=>Q v) [af.enc x,af.enc y] Go.Ev.start=
  (aa (decide (x.f0=y.f0)) (((.i64:IntKind)=.i64∧aa (decide (x.f1=y.f1)) ((∃RF ZG:List aj,[ae aj.enc 7 x.f2,ae aj.enc 7 y.f2]=[ae aj.enc 7 RF,ae aj.enc 7 ZG]∧RF.length≤1000000∧∀ZH:Bool,(ZH=true↔RF=ZG)→Q (.bool ZH))) (Q (.bool false)))) (Q (.bool false))):=by kernel_rfl
def W76 [Env] (vs:List V) (σ:St) (k:ah):Prop:=
 ∃x y:af,vs=[af.enc x,af.enc y]∧x.f2.length≤1000000∧∀b:Bool,(b=true↔x=y)→k (.bool b) σ
def FQ [Env]:=kS 76 W76 Ms
def FR:Nat→List Nat:=(fun i=>match i with | 0=>[0,1,5] | _=>[])
theorem Uy [Env] (A:Nat→List SV→Prop) (Q:V→Prop) (l m:List af):WE Tryz.prog 32 Tryz.f32 FQ 0 FR A (fun v _=>Q v) [ae af.enc 3 l,ae af.enc 3 m] Go.Ev.start=
  (((.i64:IntKind)=.i64∧aa (decide ((((l.length:Nat):Int))≠(((m.length:Nat):Int)))) (Q (.bool false)) (A 0 [.val (ae af.enc 3 l),.val (ae af.enc 3 m),.val (.int .i64 (0:Int))]))):=by kernel_rfl
theorem r32 [Env] (A:Nat→List SV→Prop) (Q:V→Prop) (l m:List af) (i:Int):WL Tryz.prog 32 Tryz.f32 FQ 0 FR A (fun v _=>Q v) 0 [.val (ae af.enc 3 l),.val (ae af.enc 3 m),.val (.int .i64 i)]=
  (((.i64:IntKind)=.i64∧aa (decide (i<(((l.length:Nat):Int)))) (((0≤i∧i<((l.length:Nat):Int))∧((0≤i∧i<((m.length:Nat):Int))∧(∃RG ZI:af,[af.enc (l.getD i.toNat default),af.enc (m.getD i.toNat default)]=[af.enc RG,af.enc ZI]∧RG.f2.length≤1000000∧∀ZJ:Bool,(ZJ=true↔RG=ZI)→aa ((!ZJ)) (Q (.bool false)) (A 0 [.val (ae af.enc 3 l),.val (ae af.enc 3 m),.val (.int .i64 (IntKind.i64.wrap (i+(1:Int))))]))))) (Q (.bool true)))):=by kernel_rfl
def W32 [Env] (vs:List V) (σ:St) (k:ah):Prop:=
 ∃x y:List af,vs=[ae af.enc 3 x,ae af.enc 3 y]∧(x.length≤1000000∧∀t∈x,t.f2.length≤1000000)∧∀b:Bool,(b=true↔x=y)→k (.bool b) σ
def Bx [Env]:=kS 32 W32 FQ
def zT:Nat→List Nat:=(fun i=>match i with | 0=>[0,3] | _=>[])
theorem Yn [Env] (A:Nat→List SV→Prop) (Q:V→Prop) (l:List af):WE Tryz.prog 27 Tryz.f27 Bx 0 zT A (fun v _=>Q v) [ae af.enc 3 l] Go.Ev.start=
  (((.i64:IntKind)=.i64∧aa (decide ((((l.length:Nat):Int))>(20:Int))) (Q (.int .i64 (0:Int))) (A 0 [.val (ae af.enc 3 l),.val (.int .i64 (0:Int))]))):=by kernel_rfl
theorem r27 [Env] (A:Nat→List SV→Prop) (Q:V→Prop) (l:List af) (i:Int):WL Tryz.prog 27 Tryz.f27 Bx 0 zT A (fun v _=>Q v) 0 [.val (ae af.enc 3 l),.val (.int .i64 i)]=
  (((.i64:IntKind)=.i64∧aa (decide (i<(((l.length:Nat):Int)))) (((0≤i∧i<((l.length:Nat):Int))∧((∃ahq:af,[af.enc (l.getD i.toNat default)]=[af.enc ahq])∧((.i64:IntKind)=.i64∧Q (.int .i64 (0:Int)))∧((.i64:IntKind)=.i64∧A 0 [.val (ae af.enc 3 l),.val (.int .i64 (IntKind.i64.wrap (i+(1:Int))))])))) (Q (.int .i64 (1:Int))))):=by kernel_rfl
def W27 [Env] (vs:List V) (σ:St) (k:ah):Prop:=
 IL (∃l:List af,vs=[ae af.enc 3 l]) σ k
def FT [Env]:=kS 27 W27 Bx
end Go.Proofs.YtbajncpfmemdgaaGreatDoor
end
section
namespace Go.Proofs.YtbajncpfmemdgaaGreatDoor
open Go Go.Ev Go.IntWalk
theorem F83:bl Tryz.prog 83 Tryz.f83:=.of (by kernel_rfl) (by kernel_rfl)
theorem F82:bl Tryz.prog 82 Tryz.f82:=.of (by kernel_rfl) (by kernel_rfl)
theorem F40:bl Tryz.prog 40 Tryz.f40:=.of (by kernel_rfl) (by kernel_rfl)
theorem F41:bl Tryz.prog 41 Tryz.f41:=.of (by kernel_rfl) (by kernel_rfl)
theorem F38:bl Tryz.prog 38 Tryz.f38:=.of (by kernel_rfl) (by kernel_rfl)
theorem F39:bl Tryz.prog 39 Tryz.f39:=.of (by kernel_rfl) (by kernel_rfl)
theorem F212:bl Tryz.prog 212 Tryz.f212:=.of (by kernel_rfl) (by kernel_rfl)
theorem F164:bl Tryz.prog 164 Tryz.f164:=.of (by kernel_rfl) (by kernel_rfl)
theorem F129:bl Tryz.prog 129 Tryz.f129:=.of (by kernel_rfl) (by kernel_rfl)
theorem F76:bl Tryz.prog 76 Tryz.f76:=.of (by kernel_rfl) (by kernel_rfl)
theorem F32:bl Tryz.prog 32 Tryz.f32:=.of (by kernel_rfl) (by kernel_rfl)
theorem F27:bl Tryz.prog 27 Tryz.f27:=.of (by kernel_rfl) (by kernel_rfl)
theorem By {α:Type} [Inhabited α] {l:List α} {i:Nat} (h:i<l.length):l.getD i default=l[i]:=by rw[List.getD_eq_getElem?_getD,List.getElem?_eq_getElem h];rfl
theorem RH {α:Type} [Inhabited α] {l m:List α} (hl:l.length=m.length) (h:∀i,i<l.length→l.getD i default=m.getD i default):l=m:=
 List.ext_getElem hl fun i h1 h2=>by have:=h i h1;rwa [By h1,By h2] at this
theorem qV (q:Nat→List UInt8):∀n,zQ q n=true↔∀i,i<n→0<i→(Op.bytesLess (q i) (q (i-1))||q i==q (i-1))=false
 | 0=>⟨fun _ i hi=>absurd hi (Nat.not_lt_zero i),fun _=>rfl⟩
 | n+1=>by
  show(zQ q n&&(decide (n=0)|| !(Op.bytesLess (q n) (q (n-1))||q n==q (n-1))))=true↔_
  rw[Bool.and_eq_true,qV q n,Bool.or_eq_true,decide_eq_true_iff,Bool.not_eq_true']
  constructor
  ·rintro⟨h1,h2⟩ i hi h0
   by_cases e:i=n
   ·subst e;exact h2.resolve_left (by omega)
   ·exact h1 i (by omega) h0
  ·intro h
   refine⟨fun i hi h0=>h i (by omega) h0,?_⟩
   by_cases e:n=0
   ·exact .inl e
   ·exact .inr (h n (by omega) (by omega))
def nameAt (l:List af) (i:Nat):List UInt8:=(l.getD i default).f0
theorem tK {l:List af} (h:l.length>16):cG l=2:=by unfold cG;rw[if_pos h]
theorem zU {l:List af} (h:¬l.length>16) {i:Nat} (hi:i<l.length) (h1:bR (l.getD i default)≠0) (h2:∀j,j<i→bR (l.getD j default)=0):cG l=bR (l.getD i default):=by
 have:=jt (fun i=>bR (l.getD i default)) l.length i hi h1 h2
 unfold cG
 rw[if_neg h,this,if_pos h1]
theorem rp {l:List af} (h:¬l.length>16) (h2:∀j,j<l.length→bR (l.getD j default)=0):cG l=if zQ (nameAt l) l.length=true then 0 else 12:=by
 have:=(cM (fun i=>bR (l.getD i default)) l.length).2 h2
 unfold cG
 rw[if_neg h,if_neg (by rw[this];exact fun h=>h rfl)];rfl
theorem CD {l:List af} (h:¬l.length>16) (h2:∀j,j<l.length→bR (l.getD j default)=0) {i:Nat} (hi:i<l.length) (h0:0<i) (hb:(Op.bytesLess (nameAt l i) (nameAt l (i-1))||nameAt l i==nameAt l (i-1))=true):cG l=12:=by
 rw[rp h h2,if_neg]
 intro hr
 have:=(qV _ _).1 hr i hi h0
 rw[hb] at this;cases this
section
variable [Env] [aZ] {vs:List V} {σ:St} {k:ah}
omit [aZ] in
theorem cF (l:List af):Go.Ev.Clean (ae af.enc 3 l):=dE (enc:=af.enc) fun x _=>af.clean x
omit [aZ] in
theorem fg (l:List aj):Go.Ev.Clean (ae aj.enc 7 l):=dE (enc:=aj.enc) fun x _=>aj.clean x
omit [aZ] in
theorem RI {f:FuncId} {s:List UInt8}:Go.Ev.Clean (.func (.func f) [] [.aU [.str s] 0]):=Go.Ev.Clean.fn cJ (aC (Go.Ev.Clean.aU (aC (Go.Ev.Clean.str _) cJ)) cJ)
theorem ZK (h:W83 vs σ k):ag Tryz.prog 83 vs k σ:=by
 obtain⟨e,s,rfl,h⟩:=h
 refine ag.cj (av (af.aJ e) (av (Go.Ev.Clean.aU (aC (Go.Ev.Clean.str _) cJ)) aM)) (.bool _) (F83.flat (live:=O1) (call:=Mo) (n₀:=0) (σ:=Go.Ev.start) (fun h=>JM h) rfl (by kernel_rfl) ?_) h
 rw[e83]
 exact aq (fun h=>by rw[decide_eq_true h]) fun h=>by rw[decide_eq_false h]
theorem JO:∀ {f:FuncId} {vs:List V} {σ:St} {k:ah},FL f vs σ k→ag Tryz.prog f vs k σ:=fun h=>aH ZK JM h
def I82 (l:List af) (s:List UInt8):Nat→List SV→Prop
 | 0,ss=>∃i:Nat,i≤l.length∧(∀j,j<i→nameAt l j≠s)∧ss=[.val (ae af.enc 3 l),.val (.func (.func 83) [] [.aU [.str s] 0]),.val (.int .i64 ((l.length:Nat):Int)),.val (.int .i64 ((i:Nat):Int))]
 | _,_=>False
theorem ZL (h:W82 vs σ k):ag Tryz.prog 82 vs k σ:=by
 obtain⟨l,s,hf,hn,h⟩:=h
 refine ag.cj hf (.int _ _) (F82.cf (live:=FM) (call:=FL) (n₀:=0) (σ:=Go.Ev.start) (fun h=>JO h) rfl 1 (by kernel_rfl) Nat.lt_wfRel.wf (fun _ ss=>l.length-cb ss) (I82 l s) ?_ ?_ ?_) h
 ·intro k ss hI
  cases k with
  | zero=>obtain⟨i,_,_,rfl⟩:=hI;exact aN (cF l) (aN RI (aG (aG bG)))
  | succ k=>exact hI.elim
 ·rw[e82]
  exact⟨0,by omega,fun j hj=>absurd hj (Nat.not_lt_zero j),rfl⟩
 ·intro k hk ss hI
  obtain rfl:k=0:=by omega
  obtain⟨i,hi,hj,rfl⟩:=hI
  rw[r82]
  refine⟨rfl,aq (fun h1=>⟨⟨by omega,by omega⟩,⟨_,_,rfl,aq (fun h2=>?_) fun h2=>?_⟩⟩) fun h1=>?_⟩
  ·rw[dJ] at h2
   show V.int .i64 (i:Int)=.int .i64 (ct s (nameAt l) l.length)
   rw[kU s _ l.length i (by omega) h2 hj]
  ·rw[dJ] at h2
   rw[i64_in ((i:Int)+1) (by omega)]
   refine⟨⟨i+1,by omega,fun j gS=>?_,rfl⟩,?_⟩
   ·by_cases e:j=i
    ·subst e;exact h2
    ·exact hj j (by omega)
   ·show l.length-((i:Int)+1).toNat<l.length-(i:Int).toNat
    omega
  ·obtain rfl:i=l.length:=by omega
   show V.int .i64 (-1:Int)=.int .i64 (ct s (nameAt l) l.length)
   rw[iI s _ l.length hj]
theorem JP:∀ {f:FuncId} {vs:List V} {σ:St} {k:ah},Mq f vs σ k→ag Tryz.prog f vs k σ:=fun h=>aH ZL JO h
theorem ZM (h:W40 vs σ k):ag Tryz.prog 40 vs k σ:=by
 obtain⟨l,s,rfl,hn,h⟩:=h
 refine ag.cj (av (cF l) (av (Go.Ev.Clean.str _) aM)) (.int _ _) (F40.flat (live:=O2) (call:=Mq) (n₀:=0) (σ:=Go.Ev.start) (fun h=>JP h) rfl (by kernel_rfl) ?_) h
 rw[e40]
 exact⟨l,s,.cons (.clean (cF l)) (.cons (.func .nil (.cons (.EN (n:=1) (cs:=[.str s]) (by rfl) (.cons (.str _) .nil)) .nil)) .nil),hn,rfl⟩
theorem JQ:∀ {f:FuncId} {vs:List V} {σ:St} {k:ah},FN f vs σ k→ag Tryz.prog f vs k σ:=fun h=>aH ZM JP h
def I41 (l:List af) (s:List UInt8):Nat→List SV→Prop
 | 0,ss=>∃i:Nat,i≤l.length∧(∀j,j<i→nameAt l j≠s)∧ss=[.val (ae af.enc 3 l),.val (.str s),.val (.int .i64 ((i:Nat):Int))]
 | _,_=>False
theorem ZN (h:W41 vs σ k):ag Tryz.prog 41 vs k σ:=by
 obtain⟨l,s,rfl,hn,h⟩:=h
 refine ag.cj (av (cF l) (av (Go.Ev.Clean.str _) aM)) (.int _ _) (F41.cf (live:=FO) (call:=FN) (n₀:=0) (σ:=Go.Ev.start) (fun h=>JQ h) rfl 1 (by kernel_rfl) Nat.lt_wfRel.wf (fun _ ss=>l.length-cb ss) (I41 l s) ?_ ?_ ?_) h
 ·intro k ss hI
  cases k with
  | zero=>obtain⟨i,_,_,rfl⟩:=hI;exact aN (cF l) (gD (aG bG))
  | succ k=>exact hI.elim
 ·rw[e41]
  exact⟨0,by omega,fun j hj=>absurd hj (Nat.not_lt_zero j),rfl⟩
 ·intro k hk ss hI
  obtain rfl:k=0:=by omega
  obtain⟨i,hi,hj,rfl⟩:=hI
  rw[r41]
  refine⟨rfl,aq (fun h1=>⟨⟨by omega,by omega⟩,aq (fun h2=>?_) fun h2=>?_⟩) fun h1=>?_⟩
  ·rw[dJ] at h2
   show V.int .i64 (i:Int)=.int .i64 (ct s (nameAt l) l.length)
   rw[kU s _ l.length i (by omega) h2 hj]
  ·rw[dJ] at h2
   rw[i64_in ((i:Int)+1) (by omega)]
   refine⟨⟨i+1,by omega,fun j gS=>?_,rfl⟩,?_⟩
   ·by_cases e:j=i
    ·subst e;exact h2
    ·exact hj j (by omega)
   ·show l.length-((i:Int)+1).toNat<l.length-(i:Int).toNat
    omega
  ·obtain rfl:i=l.length:=by omega
   show V.int .i64 (-1:Int)=.int .i64 (ct s (nameAt l) l.length)
   rw[iI s _ l.length hj]
theorem JR:∀ {f:FuncId} {vs:List V} {σ:St} {k:ah},Bu f vs σ k→ag Tryz.prog f vs k σ:=fun h=>aH ZN JQ h
def UA (l:List af) (i:Nat):Prop:=i≤l.length∧∀j,j<i→bR (l.getD j default)=0
def acP (l:List af) (i:Nat):Prop:=i≤l.length∧(∀j,j<l.length→bR (l.getD j default)=0)∧∀j,j<i→0<j→(Op.bytesLess (nameAt l j) (nameAt l (j-1))||nameAt l j==nameAt l (j-1))=false
def I38 (l:List af):Nat→List SV→Prop
 | 0,ss=>∃i:Nat,(¬l.length>16∧UA l i)∧ss=[.val (ae af.enc 3 l),.val (ae af.enc 3 l),.val (.int .i64 ((l.length:Nat):Int)),.val (.int .i64 ((i:Nat):Int))]
 | 1,ss=>∃i:Nat,(¬l.length>16∧acP l i)∧ss=[.val (ae af.enc 3 l),.val (.int .i64 ((l.length:Nat):Int)),.val (.int .i64 ((i:Nat):Int))]
 | _,_=>False
def ZO (l:List af) (j:Nat) (ss:List SV):Nat:=(1-j)*100+(l.length-cb ss)
theorem ZP (h:W38 vs σ k):ag Tryz.prog 38 vs k σ:=by
 obtain⟨l,rfl,cE,h⟩:=h
 refine ag.cj (av (cF l) aM) (.int _ _) (F38.cf (live:=zR) (call:=Bu) (n₀:=0) (σ:=Go.Ev.start) (fun h=>JR h) rfl 2 (by kernel_rfl) Nat.lt_wfRel.wf (ZO l) (I38 l) ?_ ?_ ?_) h
 ·intro k ss hI
  match k,hI with
  | 0,hI=>obtain⟨i,_,rfl⟩:=hI;exact aN (cF l) (aN (cF l) (aG (aG bG)))
  | 1,hI=>obtain⟨i,_,rfl⟩:=hI;exact aN (cF l) (aG (aG bG))
  | n+2,hI=>exact hI.elim
 ·rw[Uv]
  refine⟨rfl,aq (fun h1=>by rw[tK (by omega)]) fun h1=>⟨0,⟨by omega,Nat.zero_le _,fun j hj=>absurd hj (Nat.not_lt_zero j)⟩,rfl⟩⟩
 ·intro k hk ss hI
  match k,hI with
  | 0,hI=>
   obtain⟨i,⟨qg,hi,hj⟩,rfl⟩:=hI
   rw[ahj]
   refine⟨rfl,aq (fun h1=>⟨⟨by omega,by omega⟩,⟨_,rfl,cE _ (bn (by omega)),rfl,aq (fun h2=>?_) fun h2=>?_⟩⟩) fun h1=>?_⟩
   ·rw[dJ] at h2⊢
    rw[zU qg (by omega) h2 hj]
   ·rw[dJ] at h2
    rw[i64_in ((i:Int)+1) (by omega)]
    refine⟨⟨i+1,⟨qg,by omega,fun j gS=>?_⟩,rfl⟩,?_⟩
    ·by_cases e:j=i
     ·subst e;exact Classical.not_not.mp h2
     ·exact hj j (by omega)
    ·show 1*100+(l.length-((i:Int)+1).toNat)<1*100+(l.length-(i:Int).toNat)
     omega
   ·obtain rfl:i=l.length:=by omega
    refine⟨⟨0,⟨qg,Nat.zero_le _,hj,fun j hj=>absurd hj (Nat.not_lt_zero j)⟩,rfl⟩,?_⟩
    show 0*100+(l.length-(0:Int).toNat)<1*100+(l.length-(l.length:Int).toNat)
    have:(0:Int).toNat=0:=rfl
    omega
  | 1,hI=>
   obtain⟨i,⟨qg,hi,hz,hj⟩,rfl⟩:=hI
   rw[ahk]
   have go:(0<i→(Op.bytesLess (nameAt l i) (nameAt l (i-1))||nameAt l i==nameAt l (i-1))=false)→i<l.length→I38 l 1 [.val (ae af.enc 3 l),.val (.int .i64 ((l.length:Nat):Int)),.val (.int .i64 (IntKind.i64.wrap ((i:Int)+1)))]∧ZO l 1 [.val (ae af.enc 3 l),.val (.int .i64 ((l.length:Nat):Int)),.val (.int .i64 (IntKind.i64.wrap ((i:Int)+1)))]<ZO l 1 [.val (ae af.enc 3 l),.val (.int .i64 ((l.length:Nat):Int)),.val (.int .i64 ((i:Nat):Int))]:=fun h2 h3=>by
    rw[i64_in ((i:Int)+1) (by omega)]
    refine⟨⟨i+1,⟨qg,by omega,hz,fun j gS h0=>?_⟩,rfl⟩,?_⟩
    ·by_cases e:j=i
     ·subst e;exact h2 h0
     ·exact hj j (by omega) h0
    ·show 0*100+(l.length-((i:Int)+1).toNat)<0*100+(l.length-(i:Int).toNat)
     omega
   refine⟨rfl,aq (fun h1=>⟨rfl,aq (fun h2=>?_) fun h2=>go (fun h=>absurd h (by omega)) (by omega)⟩) fun h1=>?_⟩
   ·have e1:IntKind.i64.wrap ((i:Int)-1)=((i-1:Nat):Int):=by rw[i64_in ((i:Int)-1) (by omega)];omega
    rw[e1]
    refine⟨⟨by omega,by omega⟩,⟨by omega,by omega⟩,aa.mk (fun h3=>?_) fun h3=>go (fun _=>h3) (by omega)⟩
    rw[CD qg hz (i:=i) (by omega) (by omega) h3]
   ·obtain rfl:i=l.length:=by omega
    rw[rp qg hz,if_pos ((qV _ _).2 hj)]
  | n+2,hI=>exact hI.elim
theorem JS:∀ {f:FuncId} {vs:List V} {σ:St} {k:ah},Bv f vs σ k→ag Tryz.prog f vs k σ:=fun h=>aH ZP JR h
def I39 (l:List af):Nat→List SV→Prop
 | 0,ss=>∃i:Nat,(¬l.length>16∧UA l i)∧ss=[.val (ae af.enc 3 l),.val (.int .i64 ((i:Nat):Int))]
 | 1,ss=>∃i:Nat,(¬l.length>16∧0<i∧(i≤l.length∨i=1)∧(∀j,j<l.length→bR (l.getD j default)=0)∧∀j,j<i→0<j→(Op.bytesLess (nameAt l j) (nameAt l (j-1))||nameAt l j==nameAt l (j-1))=false)∧ss=[.val (ae af.enc 3 l),.val (.int .i64 ((i:Nat):Int))]
 | _,_=>False
def m39 (l:List af) (j:Nat) (ss:List SV):Nat:=(1-j)*100+(l.length+2-cb ss)
theorem ZQ (h:W39 vs σ k):ag Tryz.prog 39 vs k σ:=by
 obtain⟨l,rfl,cE,h⟩:=h
 refine ag.cj (av (cF l) aM) (.int _ _) (F39.cf (live:=zS) (call:=Bv) (n₀:=0) (σ:=Go.Ev.start) (fun h=>JS h) rfl 2 (by kernel_rfl) Nat.lt_wfRel.wf (m39 l) (I39 l) ?_ ?_ ?_) h
 ·intro k ss hI
  match k,hI with
  | 0,hI=>obtain⟨i,_,rfl⟩:=hI;exact aN (cF l) (aG bG)
  | 1,hI=>obtain⟨i,_,rfl⟩:=hI;exact aN (cF l) (aG bG)
  | n+2,hI=>exact hI.elim
 ·rw[e39]
  refine⟨rfl,aq (fun h1=>by rw[tK (by omega)]) fun h1=>⟨0,⟨by omega,Nat.zero_le _,fun j hj=>absurd hj (Nat.not_lt_zero j)⟩,rfl⟩⟩
 ·intro k hk ss hI
  match k,hI with
  | 0,hI=>
   obtain⟨i,⟨qg,hi,hj⟩,rfl⟩:=hI
   rw[ahl]
   refine⟨rfl,aq (fun h1=>⟨⟨by omega,by omega⟩,⟨_,rfl,cE _ (bn (by omega)),rfl,aq (fun h2=>?_) fun h2=>?_⟩⟩) fun h1=>?_⟩
   ·rw[dJ] at h2⊢
    rw[zU qg (by omega) h2 hj]
   ·rw[dJ] at h2
    rw[i64_in ((i:Int)+1) (by omega)]
    refine⟨⟨i+1,⟨qg,by omega,fun j gS=>?_⟩,rfl⟩,?_⟩
    ·by_cases e:j=i
     ·subst e;exact Classical.not_not.mp h2
     ·exact hj j (by omega)
    ·show 1*100+(l.length+2-((i:Int)+1).toNat)<1*100+(l.length+2-(i:Int).toNat)
     omega
   ·obtain rfl:i=l.length:=by omega
    refine⟨⟨1,⟨qg,by omega,.inr rfl,hj,fun j hj h0=>absurd h0 (by omega)⟩,rfl⟩,?_⟩
    show 0*100+(l.length+2-(1:Int).toNat)<1*100+(l.length+2-(l.length:Int).toNat)
    have:(1:Int).toNat=1:=rfl
    omega
  | 1,hI=>
   obtain⟨i,⟨qg,h0,hi,hz,hj⟩,rfl⟩:=hI
   rw[ahm]
   refine⟨rfl,aq (fun h1=>?_) fun h1=>?_⟩
   ·have e1:IntKind.i64.wrap ((i:Int)-1)=((i-1:Nat):Int):=by rw[i64_in ((i:Int)-1) (by omega)];omega
    rw[e1,i64_in ((i:Int)+1) (by omega)]
    refine⟨⟨by omega,by omega⟩,⟨by omega,by omega⟩,aa.mk (fun h3=>?_) fun h3=>⟨⟨i+1,⟨qg,by omega,by omega,hz,fun j gS h0'=>?_⟩,rfl⟩,?_⟩⟩
    ·rw[CD qg hz (i:=i) (by omega) (by omega) h3]
    ·by_cases e:j=i
     ·subst e;exact h3
     ·exact hj j (by omega) h0'
    ·show 0*100+(l.length+2-((i:Int)+1).toNat)<0*100+(l.length+2-(i:Int).toNat)
     omega
   ·rw[rp qg hz,if_pos ((qV _ _).2 fun j h4 h5=>hj j (by omega) h5)]
  | n+2,hI=>exact hI.elim
theorem JT:∀ {f:FuncId} {vs:List V} {σ:St} {k:ah},Mr f vs σ k→ag Tryz.prog f vs k σ:=fun h=>aH ZQ JS h
def fP (p:Prop) (v:V):Prop:=∃b:Bool,(b=true↔p)∧v=.bool b
omit [aZ] in
theorem fP.gK {p:Prop}:∀v,fP p v→eA v:=fun v ⟨b,_,e⟩=>by subst e;exact .bool b
omit [Env] [aZ] in
theorem zV {p:Prop} (h:p):fP p (.bool true):=⟨true,⟨fun _=>h,fun _=>rfl⟩,rfl⟩
omit [Env] [aZ] in
theorem iL {p:Prop} (h:¬p):fP p (.bool false):=⟨false,⟨fun c=>(by cases c),fun c=>(h c).elim⟩,rfl⟩
omit [Env] [aZ] in
theorem az.w7 {x y:az} (h0:x.f0=y.f0) (h1:x.f1=y.f1) (h2:x.f2=y.f2) (h3:x.f3=y.f3):x=y:=by
 cases x;cases y;simp only at h0 h1 h2 h3;subst h0;subst h1;subst h2;subst h3;rfl
omit [Env] [aZ] in
theorem af.w7 {x y:af} (h0:x.f0=y.f0) (h1:x.f1=y.f1) (h2:x.f2=y.f2):x=y:=by
 cases x;cases y;simp only at h0 h1 h2;subst h0;subst h1;subst h2;rfl
theorem Wo (h:Zr vs σ k):ag Tryz.prog 212 vs k σ:=by
 obtain⟨x,y,rfl,h⟩:=h
 refine ag.bc (A:=fP (x=y)) (av (az.aJ x) (av (az.aJ y) aM)) fP.gK (F212.flat (live:=JN) (call:=Mr) (n₀:=0) (σ:=Go.Ev.start) (fun h=>JT h) rfl (by kernel_rfl) ?_) fun v ⟨b,hb,e⟩=>by subst e;exact h b hb
 rw[ahn]
 exact⟨rfl,aq (fun h1=>⟨rfl,aq (fun h2=>⟨rfl,aq (fun h3=>aq (fun h4=>zV (az.w7 h1 h2 h3 h4)) fun h4=>iL fun e=>h4 (by rw[e])) fun h3=>iL fun e=>h3 (by rw[e])⟩) fun h2=>iL fun e=>h2 (by rw[e])⟩) fun h1=>iL fun e=>h1 (by rw[e])⟩
theorem JU:∀ {f:FuncId} {vs:List V} {σ:St} {k:ah},ym f vs σ k→ag Tryz.prog f vs k σ:=fun h=>aH Wo JT h
set_option maxRecDepth 100000 in
theorem Wp (h:ZA vs σ k):ag Tryz.prog 164 vs k σ:=by
 obtain⟨x,y,rfl,h⟩:=h
 refine ag.bc (A:=fP (x=y)) (av (aj.aJ x) (av (aj.aJ y) aM)) fP.gK (F164.flat (live:=sy) (call:=ym) (n₀:=0) (σ:=Go.Ev.start) (fun h=>JU h) rfl (by kernel_rfl) ?_) fun v ⟨b,hb,e⟩=>by subst e;exact h b hb
 obtain⟨a,c,f,u⟩:=x
 obtain⟨b,d,g,v⟩:=y
 have na:a≠b→fP ((⟨a,c,f,u⟩:aj)=⟨b,d,g,v⟩) (.bool false):=fun h=>iL fun e=>h (by cases e;rfl)
 have nc:c≠d→fP ((⟨a,c,f,u⟩:aj)=⟨b,d,g,v⟩) (.bool false):=fun h=>iL fun e=>h (by cases e;rfl)
 have nf:f≠g→fP ((⟨a,c,f,u⟩:aj)=⟨b,d,g,v⟩) (.bool false):=fun h=>iL fun e=>h (by cases e;rfl)
 cases f<;>cases g
 ·exact(Wn _ _ a b c d u v).mpr (aq (fun h1=>⟨rfl,aq (fun h2=>⟨u,v,rfl,fun b hb=>⟨b,hb.trans ⟨fun e=>by rw[h1,h2,e],fun e=>by cases e;rfl⟩,rfl⟩⟩) nc⟩) na)
 ·exact(Wm _ _ a b c d u v).mpr (aq (fun _=>⟨rfl,aq (fun _=>nf (by decide)) nc⟩) na)
 ·exact(Wl _ _ a b c d u v).mpr (aq (fun _=>⟨rfl,aq (fun _=>nf (by decide)) nc⟩) na)
 ·exact(Wk _ _ a b c d u v).mpr (aq (fun h1=>⟨rfl,aq (fun h2=>⟨u,v,rfl,fun b hb=>⟨b,hb.trans ⟨fun e=>by rw[h1,h2,e],fun e=>by cases e;rfl⟩,rfl⟩⟩) nc⟩) na)
theorem JV:∀ {f:FuncId} {vs:List V} {σ:St} {k:ah},FP f vs σ k→ag Tryz.prog f vs k σ:=fun h=>aH Wp JU h
def ZR {α:Type} [Inhabited α] (enc:α→V) (esz:Nat) (l m:List α):Nat→List SV→Prop
 | 0,ss=>∃i:Nat,(l.length=m.length∧∀j,j<i→l.getD j default=m.getD j default)∧i≤l.length∧ss=[.val (ae enc esz l),.val (ae enc esz m),.val (.int .i64 ((i:Nat):Int))]
 | _,_=>False
omit [aZ] [Env] in
theorem tL {α:Type} [Inhabited α] {l m:List α} (hl:l.length=m.length) (h:∀i,i<l.length→l.getD i default=m.getD i default):l=m:=RH hl h
theorem Wq (h:ZF vs σ k):ag Tryz.prog 129 vs k σ:=by
 obtain⟨l,m,rfl,hs,h⟩:=h
 refine ag.bc (A:=fP (l=m)) (av (fg l) (av (fg m) aM)) fP.gK (F129.cf (live:=Bw) (call:=FP) (n₀:=0) (σ:=Go.Ev.start) (fun h=>JV h) rfl 1 (by kernel_rfl) Nat.lt_wfRel.wf (fun _ ss=>l.length-cb ss) (ZR aj.enc 7 l m) ?_ ?_ ?_) fun v ⟨b,hb,e⟩=>by subst e;exact h b hb
 ·intro k ss hI
  cases k with
  | zero=>obtain⟨i,_,_,rfl⟩:=hI;exact aN (fg l) (aN (fg m) (aG bG))
  | succ k=>exact hI.elim
 ·rw[aho]
  refine⟨rfl,aq (fun h1=>iL fun e=>h1 (by rw[e])) fun h1=>⟨0,⟨by omega,fun j hj=>absurd hj (Nat.not_lt_zero j)⟩,by omega,rfl⟩⟩
 ·intro k hk ss hI
  obtain rfl:k=0:=by omega
  obtain⟨i,⟨hl,cH⟩,hi,rfl⟩:=hI
  rw[ahp]
  refine⟨rfl,aq (fun h1=>⟨⟨by omega,by omega⟩,⟨by omega,by omega⟩,_,_,rfl,fun b hb=>aa.mk (fun h2=>iL fun e=>?_) fun h2=>?_⟩) fun h1=>zV (tL hl fun j hj=>cH j (by omega))⟩
  ·have:=hb.2 (by rw[e]);rw[this] at h2;cases h2
  ·rw[i64_in ((i:Int)+1) (by omega)]
   refine⟨⟨i+1,⟨hl,fun j hj=>?_⟩,by omega,rfl⟩,?_⟩
   ·by_cases ej:j=i
    ·subst ej;exact hb.1 (by simpa using h2)
    ·exact cH j (by omega)
   show l.length-((i:Int)+1).toNat<l.length-(i:Int).toNat
   omega
theorem JW:∀ {f:FuncId} {vs:List V} {σ:St} {k:ah},Ms f vs σ k→ag Tryz.prog f vs k σ:=fun h=>aH Wq JV h
theorem ZS (h:W76 vs σ k):ag Tryz.prog 76 vs k σ:=by
 obtain⟨x,y,rfl,hs,h⟩:=h
 refine ag.bc (A:=fP (x=y)) (av (af.aJ x) (av (af.aJ y) aM)) fP.gK (F76.flat (live:=O3) (call:=Ms) (n₀:=0) (σ:=Go.Ev.start) (fun h=>JW h) rfl (by kernel_rfl) ?_) fun v ⟨b,hb,e⟩=>by subst e;exact h b hb
 rw[e76]
 refine aq (fun h1=>⟨rfl,aq (fun h2=>⟨_,_,rfl,hs,fun b hb=>⟨b,hb.trans ⟨fun h3=>af.w7 h1 h2 h3,fun e=>by rw[e]⟩,rfl⟩⟩) fun h2=>iL fun e=>h2 (by rw[e])⟩) fun h1=>iL fun e=>h1 (by rw[e])
theorem JX:∀ {f:FuncId} {vs:List V} {σ:St} {k:ah},FQ f vs σ k→ag Tryz.prog f vs k σ:=fun h=>aH ZS JW h
theorem ZT (h:W32 vs σ k):ag Tryz.prog 32 vs k σ:=by
 obtain⟨l,m,rfl,hs,h⟩:=h
 refine ag.bc (A:=fP (l=m)) (av (cF l) (av (cF m) aM)) fP.gK (F32.cf (live:=FR) (call:=FQ) (n₀:=0) (σ:=Go.Ev.start) (fun h=>JX h) rfl 1 (by kernel_rfl) Nat.lt_wfRel.wf (fun _ ss=>l.length-cb ss) (ZR af.enc 3 l m) ?_ ?_ ?_) fun v ⟨b,hb,e⟩=>by subst e;exact h b hb
 ·intro k ss hI
  cases k with
  | zero=>obtain⟨i,_,_,rfl⟩:=hI;exact aN (cF l) (aN (cF m) (aG bG))
  | succ k=>exact hI.elim
 ·rw[Uy]
  refine⟨rfl,aq (fun h1=>iL fun e=>h1 (by rw[e])) fun h1=>⟨0,⟨by omega,fun j hj=>absurd hj (Nat.not_lt_zero j)⟩,by omega,rfl⟩⟩
 ·intro k hk ss hI
  obtain rfl:k=0:=by omega
  obtain⟨i,⟨hl,cH⟩,hi,rfl⟩:=hI
  rw[r32]
  refine⟨rfl,aq (fun h1=>⟨⟨by omega,by omega⟩,⟨by omega,by omega⟩,_,_,rfl,hs.2 _ (bn (by omega)),fun b hb=>aa.mk (fun h2=>iL fun e=>?_) fun h2=>?_⟩) fun h1=>zV (tL hl fun j hj=>cH j (by omega))⟩
  ·have:=hb.2 (by rw[e]);rw[this] at h2;cases h2
  ·rw[i64_in ((i:Int)+1) (by omega)]
   refine⟨⟨i+1,⟨hl,fun j hj=>?_⟩,by omega,rfl⟩,?_⟩
   ·by_cases ej:j=i
    ·subst ej;exact hb.1 (by simpa using h2)
    ·exact cH j (by omega)
   show l.length-((i:Int)+1).toNat<l.length-(i:Int).toNat
   omega
theorem Bz:∀ {f:FuncId} {vs:List V} {σ:St} {k:ah},Bx f vs σ k→ag Tryz.prog f vs k σ:=fun h=>aH ZT JX h
end
end Go.Proofs.YtbajncpfmemdgaaGreatDoor
end
section
namespace Go.Ev
open Go
section
variable [Env] {P:Program} {σ:St}
inductive nD (τ:St) (b n:Nat) (g:Nat→V) (esz:Nat):V→Prop
 | own {f:Nat→V} {p:Bool} (hb:τ.heap.get b=some (.row n f esz p)) (h:∀i,i<n→bH (τ.kill b) (f i).cells (g i).cells):nD τ b n g esz (.own b n esz)
 | slice {m:Nat} {ex:Bool} {z:List V} {t:Trie V} {p:Bool} (hb:τ.heap.get b=some (.cells (n*esz) z t p false)) (hm:(ex=true∧n≤m)∨(ex=false∧m=n∧n≠0)) (hu:∀i,i<n→(g i).cells.length=esz)
   (h:∀i,i<n→∃cs,cellsOf (n*esz) z t esz (i*esz)=some cs∧bH (τ.kill b) cs (g i).cells):nD τ b n g esz (.slice b 0 n m ex esz)
theorem FU {τ:St}:∀ {vs us:List V},bH τ vs us→vs.length=us.length
 | _,_,.nil=>rfl
 | _,_,.cons _ hl=>congrArg (·+1) (FU hl)
theorem nD.di {τ:St} {b n esz:Nat} {g:Nat→V} {v:V} (h:nD τ b n g esz v) {ρ ρ':aA} {w:World} {l:Loc} (hr:R ρ τ w) (hl:ρ b=some l)
  (hz:∀ {vs us:List V} {xs:List Value},bH (τ.kill b) vs us→ay ρ vs xs→ay ρ' us xs):fN ρ' w l (.row n g esz false):=by
 cases h with
 | own hb h=>
  obtain⟨l',cm,cE⟩:=hr.di b _ hb
  rw[hl] at cm;cases cm
  cases cE with
  | row hs hn hu hv hf hp=>
   rename_i f p
   refine .row hs hn (fun i hi=>by rw[←FU (h i hi)];exact hu i hi) (fun i hi k v hk=>?_) hf (fun h=>by cases h)
   have key:∃xs:List Value,ay ρ (f i).cells xs∧∀(k:Nat) x,xs[k]? =some x→w.cell? ⟨l.c,l.o+(i*esz+k),none⟩=some x:=by
    obtain⟨xs,h1,h2⟩:=sZ (ρ:=ρ) (cs:=(f i).cells) (p:=fun k x=>w.cell? ⟨l.c,l.o+(i*esz+k),none⟩=some x) fun k v hk=>hv i hi k v hk
    exact⟨xs,h1,h2⟩
   obtain⟨xs,h1,h2⟩:=key
   obtain⟨x,hx,hr⟩:=ay.get (hz (h i hi) h1) _ hk
   exact⟨x,h2 k x hx,hr⟩
 | slice hb hm hu h=>
  obtain⟨l',cm,cE⟩:=hr.di b _ hb
  rw[hl] at cm;cases cm
  cases cE with
  | cells hs hn hv hf hp=>
   refine .row hs hn hu (fun i hi k v hk=>?_) (hf rfl) (fun h=>by cases h)
   obtain⟨cs,hc,CE⟩:=h i hi
   obtain⟨_,g2⟩:=gR _ _ hc
   obtain⟨xs,h1,h2⟩:=sZ (ρ:=ρ) (cs:=cs) (p:=fun k x=>w.cell? ⟨l.c,l.o+(i*esz+k),none⟩=some x) fun k v hk=>hv _ v (g2 k v hk)
   obtain⟨x,hx,hr⟩:=ay.get (hz CE h1) _ hk
   exact⟨x,h2 k x hx,hr⟩
theorem nD.val {τ:St} {b n esz:Nat} {g:Nat→V} {v:V} (h:nD τ b n g esz v) {ρ ρ':aA} {x:Value} {i:Nat} (hx:au ρ v x) (hi:∀l,ρ b=some l→ρ' i=some l):au ρ' (.own i n esz) x:=by
 cases h with
 | own hb h=>
  cases hx with
  | own hl hc hN=>exact .own (hi _ hl) hc hN
 | slice hb hm hu h=>
  cases hx with
  | slice hl hex cW hN hn=>
   rcases hm with ⟨rfl,hm⟩ | ⟨rfl,rfl,hm⟩
   ·obtain⟨rfl,rfl⟩:=hex rfl
    exact .own (hi _ hl) hm (by simpa using hN)
   ·obtain⟨h1,h2⟩:=cW rfl
    rcases h2 with h2 | h2
    ·subst h2;exact .own (hi _ hl) h1 (by simpa using hN)
    ·exact absurd h2.1 hm
theorem nD.at {τ:St} {b n esz:Nat} {g:Nat→V} {v:V} (h:nD τ b n g esz v):∃q,τ.heap.get b=some q:=by
 cases h with
 | own hb h=>exact⟨_,hb⟩
 | slice hb hm hu h=>exact⟨_,hb⟩
mutual
theorem ey.gd {σ:St}:∀ {v u:V},ey start v u→ey σ v u
 | _,_,.clean h=>.clean h
 | _,_,.kR h=>.kR h.gd
 | _,_,.arr h hu he hn=>.arr (fun i hi=>(h i hi).gd) hu he hn
 | _,_,.own hb _ _=>by rw[eR] at hb;cases hb
 | _,_,.int k n=>.int k n
 | _,_,.bool b=>.bool b
 | _,_,.str s=>.str s
 | _,_,.dO k b=>.dO k b
 | _,_,.any i=>.any i
 | _,_,.dA=>.dA
 | _,_,.dc=>.dc
 | _,_,.cR=>.cR
 | _,_,.bh=>.bh
 | _,_,.ak=>.ak
 | _,_,.empty e x=>.empty e x
 | _,_,.bX h hu hn he=>.bX h.gd hu hn he
 | _,_,.aU h=>.aU h.gd
 | _,_,.EN hc _=>by simp [St.cells,eR] at hc
 | _,_,.func hx hy=>.func hx.gd hy.gd
 | _,_,.slice hc _ _ _=>by simp [St.cells,eR] at hc
 | _,_,.agg h=>.agg h.gd
 | _,_,.tuple h=>.tuple h.gd
 | _,_,.iface h=>.iface h.gd
theorem bH.gd {σ:St}:∀ {vs us:List V},bH start vs us→bH σ vs us
 | _,_,.nil=>.nil
 | _,_,.cons h hl=>.cons h.gd hl.gd
end
def bd (σ:St) (k:ah) (v:V) (τ:St):Prop:=
 (∃u,ey τ v u∧k u σ)∨
 (∃b n g esz,nD τ b n g esz v∧k (.own σ.next n esz) (σ.new σ.next (.row n g esz false)))∨
 ∃b n g esz w e e',v=.tuple [w,e]∧nD τ b n g esz w∧ey (τ.kill b) e e'∧k (.tuple [.own σ.next n esz,e']) (σ.new σ.next (.row n g esz false))
theorem bd.ex {σ:St} {k:ah} {v:V} {τ:St} (h:bd σ k v τ):∃v σ,k v σ:=by
 rcases h with ⟨u,_,h⟩ | ⟨b,n,g,esz,_,h⟩ | ⟨b,n,g,esz,w,e,e',_,_,_,h⟩
 ·exact⟨_,_,h⟩
 ·exact⟨_,_,h⟩
 ·exact⟨_,_,h⟩
theorem ag.ZU {f:FuncId} {vs us:List V} {σk σf:St} {k:ah} (hk:∀b q,σk.heap.get b=some q→σ.heap.get b=some q) (hf:∀b q,σf.heap.get b=some q→σ.heap.get b=some q)
  (hd:∀b q q',σk.heap.get b=some q→σf.heap.get b=some q'→False) (hn:σk.next=σ.next) (Hv:σf.next=σ.next) (CE:bH σf vs us) (h:bW P f us (bd σk k) start):ag P f vs k σ:=by
 refine⟨⟨?_,?_⟩⟩
 ·obtain⟨v,τ,hx⟩:=h.ex
  obtain⟨u,σ',hu⟩:=bd.ex hx;exact⟨(.val u,σ'),hu⟩
 ·intro ρ w vs' hr hv
  let G:Nat→Prop:=fun c=>∃b q l,σf.heap.get b=some q∧ρ b=some l∧l.c=c
  let bT:aA:=⟨fun _=>none,fun c o=>open Classical in if G c then w.cell? ⟨c,o,none⟩ else ρ.aV c o⟩
  have w8:∀c o x,ρ.aV c o=some x→bT.aV c o=some x:=by
   intro c o x hx
   show(open Classical in if G c then w.cell? ⟨c,o,none⟩ else ρ.aV c o)=some x
   by_cases hg:G c
   ·rw[if_pos hg];exact(hr.aV c o x hx).1
   ·rw[if_neg hg];exact hx
  have sA:∀c o x,bT.aV c o=some x→w.cell? ⟨c,o,none⟩=some x∧(G c∨(ρ.aV c o=some x∧¬G c)):=by
   intro c o x hx
   replace hx:(open Classical in if G c then w.cell? ⟨c,o,none⟩ else ρ.aV c o)=some x:=hx
   by_cases hg:G c
   ·rw[if_pos hg] at hx;exact⟨hx,.inl hg⟩
   ·rw[if_neg hg] at hx;exact⟨(hr.aV c o x hx).1,.inr ⟨hx,hg⟩⟩
  have UB:∀ {ρ:aA} {c:Nat},¬Wr ρ start c:=fun {_ _} ⟨b,k,l,h,_⟩=>by rw[eR] at h;cases h
  have zC:R bT start w:=⟨fun b k hb=>(by rw[eR] at hb;cases hb),fun b b' k k' l l' hb=>(by rw[eR] at hb;cases hb),fun _ _=>rfl,fun _ _ h=>(by cases h),fun c o x hx=>⟨(sA c o x hx).1,UB⟩,fun q hq=>w8 _ _ _ (hr.laid q hq)⟩
  have zA:ay bT us vs':=fC (hr.sub hf Hv) w8 (fun b k l hb hl o x hx=>by
   show(open Classical in if G l.c then w.cell? ⟨l.c,o,none⟩ else ρ.aV l.c o)=some x
   rw[if_pos ⟨b,k,l,hb,hl,rfl⟩];exact hx) CE hv
  obtain⟨g1,g2⟩:=h.h bT w vs' zC zA
  refine⟨g1,g2.mono fun e w' hx=>?_⟩
  obtain⟨v,τ,bz,v',hq,rfl,mS,aF⟩:=hx
  have hold:∀c,c<w.heap.size→w'.heap[c]? =w.heap[c]? :=fun c hc=>aF.aQ c hc UB
  have fW:∀b q l,τ.heap.get b=some q→bz b=some l→¬l.c<w.heap.size:=fun b q l hb hl hc=>UB (aF.wr l.c hc ⟨b,q,l,hb,rfl,hl,rfl⟩)
  have UC:∀c o x,c<w.heap.size→bz.aV c o=some x→bT.aV c o=some x:=by
   intro c o x hc hx
   rcases aF.hH c o x hx with h1 | h1 | h1
   ·exact h1
   ·omega
   ·exact absurd h1 UB
  have hGk:∀c o x,bT.aV c o=some x→¬Wr ρ σk c:=by
   rintro c o x hx ⟨b,q,l,h1,_,h3,h4⟩
   rcases(sA c o x hx).2 with ⟨b',q',l',e1,e2,e3⟩ | ⟨e1,_⟩
   ·have:=hr.inj b b' q q' l l' (hk _ _ h1) (hf _ _ e1) h3 e2 (h4.trans e3.symm)
    subst this
    exact hd _ _ _ h1 e1
   ·exact(hr.aV c o x e1).2 ⟨b,q,l,hk _ _ h1,rfl,h3,h4⟩
  have hGw:∀c o x,bT.aV c o=some x→ρ.aV c o=some x∨w.heap.size≤c∨Wr ρ σ c:=by
   intro c o x hx
   rcases(sA c o x hx).2 with ⟨b',q',l',e1,e2,e3⟩ | ⟨e1,_⟩
   ·exact .inr (.inr ⟨b',q',l',hf _ _ e1,rfl,e2,e3⟩)
   ·exact .inl e1
  have bE:∀b l,ρ b=some l→b<σ.next:=fun b l hb=>Nat.lt_of_not_le fun hle=>by rw[hr.fresh b hle] at hb;cases hb
  have row:∀ {b n esz:Nat} {g:Nat→V} {u:V},nD τ b n g esz u→∃bm:aA,aW m9 ρ σ w bm (σk.new σk.next (.row n g esz false)) w'∧(∀x,au bz u x→au bm (.own σk.next n esz) x)∧∀ {e e':V} {x:Value},ey (τ.kill b) e e'→au bz e x→au bm e' x:=by
   intro b n esz g u td
   obtain⟨q,hb⟩:=td.at
   obtain⟨cw,eo,_⟩:=aF.r.di b q hb
   have zW:=fW b q cw hb eo
   have ZV:=aF.r.valid b cw eo
   let bm:aA:=⟨fun i=>if i=σk.next then some cw else ρ i,fun c o=>if c<w.heap.size then bT.aV c o else if c=cw.c then none else w'.cell? ⟨c,o,none⟩⟩
   have Dj:∀i l,bm i=some l→(i=σk.next∧l=cw)∨ρ i=some l:=by
    intro i l hi
    replace hi:(if i=σk.next then some cw else ρ i)=some l:=hi
    by_cases e:i=σk.next
    ·rw[if_pos e] at hi;cases hi;exact .inl ⟨e,rfl⟩
    ·rw[if_neg e] at hi;exact .inr hi
   have JY:∀c o x,bz.aV c o=some x→bm.aV c o=some x:=by
    intro c o x hx
    show(if c<w.heap.size then bT.aV c o else if c=cw.c then none else w'.cell? ⟨c,o,none⟩)=some x
    by_cases hc:c<w.heap.size
    ·rw[if_pos hc];exact UC c o x hc hx
    ·have h2:=aF.r.aV c o x hx
     rw[if_neg hc,if_neg fun e=>h2.2 ⟨b,q,cw,hb,rfl,eo,e.symm⟩];exact h2.1
   have hle:ρ.le bm:=⟨fun i l hi=>by
    show(if i=σk.next then some cw else ρ i)=some l
    rw[if_neg fun e=>by have:=bE i l hi;omega];exact hi,fun c o x hx=>by
    show(if c<w.heap.size then bT.aV c o else _)=some x
    rw[if_pos (gG (hr.aV c o x hx).1)];exact w8 c o x hx⟩
   have UD:R bz (τ.kill b) w':=aF.r.sub (fun c k hc=>by
    rw[iO] at hc
    by_cases e:c=b
    ·rw[if_pos e] at hc;cases hc
    ·rw[if_neg e] at hc;exact hc) rfl
   have je:∀b' k l,(τ.kill b).heap.get b'=some k→bz b'=some l→∀o x,w'.cell? ⟨l.c,o,none⟩=some x→bm.aV l.c o=some x:=by
    intro b' k l bA hl o x hx
    rw[iO] at bA
    by_cases e:b'=b
    ·rw[if_pos e] at bA;cases bA
    ·rw[if_neg e] at bA
     show(if l.c<w.heap.size then bT.aV l.c o else if l.c=cw.c then none else w'.cell? ⟨l.c,o,none⟩)=some x
     rw[if_neg (fW b' k l bA hl),if_neg fun h=>e (aF.r.inj b' b k q l cw bA hb hl eo h)]
     exact hx
   refine⟨bm,⟨⟨fun i k hi=>?_,fun i j k k' l l' h1 h2 g1 g2 e=>?_,fun i hi=>?_,fun i l hi=>?_,fun c o x hx=>?_,hr.rL hle⟩,hle,?_,fun i l hi=>?_,aF.size,aF.os,aF.tape,aF.output,fun c hc _=>hold c hc,fun c hc hw=>?_,fun i k hi=>?_,fun c o x hx=>?_⟩,fun x hx=>td.val hx fun l hl=>?_,fun he hx=>nv UD JY je he hx⟩
   ·rw[iq] at hi
    by_cases e:i=σk.next
    ·rw[if_pos e] at hi;cases hi
     exact⟨cw,if_pos e,td.di aF.r eo fun hz hx=>fC UD JY je hz hx⟩
    ·rw[if_neg e] at hi
     obtain⟨l,hl,cE⟩:=hr.di i k (hk _ _ hi)
     exact⟨l,hle i l hl,cE.same hle (hold l.c (hr.valid i l hl))⟩
   ·rw[iq] at h1 h2
    by_cases e1:i=σk.next
    ·by_cases e2:j=σk.next
     ·rw[e1,e2]
     ·rw[if_neg e2] at h2
      have Cn:(if i=σk.next then some cw else ρ i)=some l:=g1
      have xB:(if j=σk.next then some cw else ρ j)=some l':=g2
      rw[if_pos e1] at Cn;rw[if_neg e2] at xB
      cases Cn
      exact absurd (by rw[e];exact hr.valid j l' xB) zW
    ·rw[if_neg e1] at h1
     have Cn:(if i=σk.next then some cw else ρ i)=some l:=g1
     rw[if_neg e1] at Cn
     by_cases e2:j=σk.next
     ·have xB:(if j=σk.next then some cw else ρ j)=some l':=g2
      rw[if_pos e2] at xB;cases xB
      exact absurd (by rw[←e];exact hr.valid i l Cn) zW
     ·rw[if_neg e2] at h2
      have xB:(if j=σk.next then some cw else ρ j)=some l':=g2
      rw[if_neg e2] at xB
      exact hr.inj i j k k' l l' (hk _ _ h1) (hk _ _ h2) Cn xB e
   ·rw[qP] at hi
    show(if i=σk.next then some cw else ρ i)=none
    rw[if_neg (by omega)]
    exact hr.fresh i (by omega)
   ·rcases Dj i l hi with ⟨_,rfl⟩ | hi
    ·exact ZV
    ·exact Nat.lt_of_lt_of_le (hr.valid i l hi) aF.size
   ·replace hx:(if c<w.heap.size then bT.aV c o else if c=cw.c then none else w'.cell? ⟨c,o,none⟩)=some x:=hx
    have wr:Wr bm (σk.new σk.next (.row n g esz false)) c→c=cw.c∨Wr ρ σk c:=by
     rintro⟨i,k,l,h1,_,h3,h4⟩
     rw[iq] at h1
     rcases Dj i l h3 with ⟨_,rfl⟩ | O4
     ·exact .inl h4.symm
     ·by_cases e:i=σk.next
      ·have:=bE i l O4;omega
      ·rw[if_neg e] at h1
       exact .inr ⟨i,k,l,h1,rfl,O4,h4⟩
    by_cases hc:c<w.heap.size
    ·rw[if_pos hc] at hx
     refine⟨by rw[cell?_of_block (hold c hc)];exact(sA c o x hx).1,fun hw=>?_⟩
     rcases wr hw with h1 | h1
     ·exact zW (by rw[←h1];exact hc)
     ·exact hGk c o x hx h1
    ·rw[if_neg hc] at hx
     by_cases fu:c=cw.c
     ·rw[if_pos fu] at hx;cases hx
     ·rw[if_neg fu] at hx
      refine⟨hx,fun hw=>?_⟩
      rcases wr hw with h1 | ⟨i,k,l,_,_,h3,h4⟩
      ·exact fu h1
      ·exact hc (by rw[←h4];exact hr.valid i l h3)
   ·rw[qP];omega
   ·rcases Dj i l hi with ⟨rfl,_⟩ | hi
    ·exact .inr (.inl (by omega))
    ·exact .inl hi
   ·obtain⟨i,k,l,h1,_,h3,h4⟩:=hw
    rw[iq] at h1
    rcases Dj i l h3 with ⟨_,rfl⟩ | O4
    ·exact absurd (by rw[h4];exact hc) zW
    ·by_cases e:i=σk.next
     ·have:=bE i l O4;omega
     ·rw[if_neg e] at h1
      exact⟨i,k,l,hk _ _ h1,rfl,O4,h4⟩
   ·rw[iq] at hi
    by_cases e:i=σk.next
    ·exact .inr (.inl (by omega))
    ·rw[if_neg e] at hi;exact .inl ⟨k,hk _ _ hi⟩
   ·replace hx:(if c<w.heap.size then bT.aV c o else if c=cw.c then none else w'.cell? ⟨c,o,none⟩)=some x:=hx
    by_cases hc:c<w.heap.size
    ·rw[if_pos hc] at hx;exact hGw c o x hx
    ·exact .inr (.inl (Nat.le_of_not_lt hc))
   ·rw[eo] at hl;cases hl
    exact if_pos rfl
  rcases hq with ⟨u,vI,O5⟩ | ⟨b,n,g,esz,td,O5⟩ | ⟨b,n,g,esz,u,e,e',rfl,td,he,O5⟩
  ·let bm:aA:=⟨ρ.at',fun c o=>if c<w.heap.size then bT.aV c o else w'.cell? ⟨c,o,none⟩⟩
   have hle:ρ.le bm:=⟨fun b l hb=>hb,fun c o x hx=>by
    show(if c<w.heap.size then bT.aV c o else _)=some x
    rw[if_pos (gG (hr.aV c o x hx).1)];exact w8 c o x hx⟩
   have yg:∀c o x,bz.aV c o=some x→bm.aV c o=some x:=by
    intro c o x hx
    show(if c<w.heap.size then bT.aV c o else _)=some x
    by_cases hc:c<w.heap.size
    ·rw[if_pos hc];exact UC c o x hc hx
    ·rw[if_neg hc];exact(aF.r.aV c o x hx).1
   have je:∀b q l,τ.heap.get b=some q→bz b=some l→∀o x,w'.cell? ⟨l.c,o,none⟩=some x→bm.aV l.c o=some x:=by
    intro b q l hb hl o x hx
    show(if l.c<w.heap.size then bT.aV l.c o else _)=some x
    rw[if_neg (fW b q l hb hl)]
    exact hx
   refine⟨u,σk,bm,v',O5,rfl,nv aF.r yg je vI mS,⟨⟨fun b q hb=>?_,fun i j k k' l l' h1 h2 g1 g2 e=>hr.inj i j k k' l l' (hk _ _ h1) (hk _ _ h2) g1 g2 e,fun i hi=>hr.fresh i (by omega),fun b l hb=>Nat.lt_of_lt_of_le (hr.valid b l hb) aF.size,fun c o x hx=>?_,hr.rL hle⟩,hle,by omega,fun b l hb=>.inl hb,aF.size,aF.os,aF.tape,aF.output,
    fun c hc _=>hold c hc,fun c _ ⟨i,q,l,h1,_,h3,h4⟩=>⟨i,q,l,hk _ _ h1,rfl,h3,h4⟩,fun b q hb=>.inl ⟨q,hk _ _ hb⟩,fun c o x hx=>?_⟩⟩
   ·obtain⟨l,hl,cE⟩:=hr.di b q (hk _ _ hb)
    exact⟨l,hl,cE.same hle (hold l.c (hr.valid b l hl))⟩
   ·replace hx:(if c<w.heap.size then bT.aV c o else w'.cell? ⟨c,o,none⟩)=some x:=hx
    by_cases hc:c<w.heap.size
    ·rw[if_pos hc] at hx
     exact⟨by rw[cell?_of_block (hold c hc)];exact(sA c o x hx).1,hGk c o x hx⟩
    ·rw[if_neg hc] at hx
     refine⟨hx,?_⟩
     rintro⟨b,q,l,_,_,h3,h4⟩
     exact hc (by rw[←h4];exact hr.valid b l h3)
   ·replace hx:(if c<w.heap.size then bT.aV c o else w'.cell? ⟨c,o,none⟩)=some x:=hx
    by_cases hc:c<w.heap.size
    ·rw[if_pos hc] at hx;exact hGw c o x hx
    ·exact .inr (.inl (Nat.le_of_not_lt hc))
  ·obtain⟨bm,h1,h2,_⟩:=row td
   exact⟨_,_,bm,v',O5,rfl,h2 _ mS,h1⟩
  ·obtain⟨bm,h1,h2,h3⟩:=row td
   cases mS with
   | tuple mS=>
    cases mS with
    | cons ha hb=>
     cases hb with
     | cons hb hc=>
      cases hc
      exact⟨_,_,bm,_,O5,rfl,.tuple (.cons (h2 _ ha) (.cons (h3 he hb) .nil)),h1⟩
theorem ag.aQ {f:FuncId} {vs us:List V} {k:ah} (CE:bH start vs us) (h:bW P f us (bd σ k) start):ag P f vs k σ:=
 ag.ZU (σk:=σ) (σf:=void σ.next) (fun _ _ h=>h) (fun b q h=>by rw[nw] at h;cases h) (fun b q q' _ h=>by rw[nw] at h;cases h) rfl rfl (bH.gd CE) h
theorem ag.nE {f:FuncId} {vs us:List V} {k:ah} (CE:bH σ vs us) (h:bW P f us (bd (void σ.next) k) start):ag P f vs k σ:=
 ag.ZU (σk:=void σ.next) (σf:=σ) (fun b q h=>by rw[nw] at h;cases h) (fun _ _ h=>h) (fun b q q' h=>by rw[nw] at h;cases h) rfl rfl CE h
theorem bW.imp {f:FuncId} {vs us:List V} {Q:ah} (hi:∀ρ xs,ay ρ vs xs→ay ρ us xs) (h:bW P f us Q σ):bW P f vs Q σ:=
 ⟨h.ex,fun ρ w vs' hr hv=>h.h ρ w vs' hr (hi ρ vs' hv)⟩
noncomputable def bc (q:bU):St:=⟨Trie.put .leaf 0 (some q),1⟩
omit [Env] in
theorem RJ {q k:bU} {i:Nat} (h:(bc q).heap.get i=some k):i=0∧k=q:=by
 have h':(Trie.put .leaf 0 (some q)).get i=some k:=h
 rw[Trie.b9] at h'
 by_cases e:i=0
 ·rw[if_pos e] at h';cases h';exact⟨e,rfl⟩
 ·rw[if_neg e,Trie.fw] at h';cases h'
theorem ag.ahr {f:FuncId} {cs:List V} {b n esz:Nat} {g:Nat→V} {p:Bool} {es:List V} {A:Nat→(Nat→V)→Prop} {k:ah} (hb:σ.heap.get b=some (.row n g esz p)) (hu:∀i,i<n→(g i).cells.length=esz) (hg:∀i,i<n→∀u∈(g i).cells,Clean u)
  (he:es=ax (cn n g)) (dH:∀v∈cs,Clean v) (h:bW P f (.slice 0 0 n n false esz::cs) (eY esz A) (bc (.cells (n*esz) [] (ai es .leaf 0) false false))) (hk:∀n g,A n g→k (.own σ.next n esz) ((σ.kill b).new σ.next (.row n g esz false))):ag P f (.own b n esz::cs) k σ:=
 ag.frame (m:=fun i=>if i=0 then some b else none) (σ₀:=bc (.cells (n*esz) [] (ai es .leaf 0) false false)) (fun i j c h1 h2=>by
   by_cases e1:i=0
   ·by_cases e2:j=0
    ·rw[e1,e2]
    ·simp only[if_neg e2] at h2;cases h2
   ·simp only[if_neg e1] at h1;cases h1)
  (fun i hi=>if_neg (by have:1≤i:=hi;omega))
  (fun i k hi=>by
   obtain⟨rfl,rfl⟩:=RJ hi
   refine⟨b,_,if_pos rfl,hb,.ofRow fun i v hv=>?_⟩
   subst he
   rcases gx hv with ⟨_,h2,h3⟩ | ⟨_,h2⟩
   ·rw[Nat.sub_zero] at h3
    have cZ:=gI hu
    have bE:i<n*esz:=by
     have:=(List.getElem?_eq_some_iff.1 h3).1
     rwa [cV cZ,bg] at this
    have h0:0<esz:=by
     rcases Nat.eq_zero_or_pos esz with h | h
     ·subst h;simp at bE
     ·exact h
    have hi:i/esz<n:=(Nat.div_lt_iff_lt_mul h0).2 bE
    have eV:i%esz<esz:=Nat.mod_lt _ h0
    have e:i/esz*esz+i%esz=i:=by rw[Nat.mul_comm];exact Nat.div_add_mod i esz
    have OG:=il cZ (dB (f:=g) hi) eV
    rw[e,h3] at OG
    exact⟨_,_,v,hi,e.symm,OG.symm,.clean (hg _ hi v (List.mem_of_getElem? OG.symm))⟩
   ·unfold cellOf at h2
    split at h2
    ·rw[Trie.fw] at h2;simp [ea] at h2
    ·cases h2)
  (.cons (.TS (if_pos rfl)) (eZ.clean dH)) h
  (YJ (κ:=σ.kill b) (fun i k hi=>by
   rw[iO] at hi
   by_cases e:i=b
   ·rw[if_pos e] at hi;cases hi
   ·rw[if_neg e] at hi
    refine⟨hi,fun j k' _ hj=>?_⟩
    by_cases ej:j=0
    ·simp only[if_pos ej] at hj;cases hj;exact e rfl
    ·simp only[if_neg ej] at hj;cases hj) rfl hk)
end
end Go.Ev
end
