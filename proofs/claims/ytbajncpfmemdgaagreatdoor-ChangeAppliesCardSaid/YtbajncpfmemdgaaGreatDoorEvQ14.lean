/- Proved: parts of the way: BEq2, BEq3, BP0, BP1, BP2. -/
import Derived.Test.YtbajncpfmemdgaaGreatDoorEvQ13
import Derived.IntWalk
set_option linter.unusedVariables false
set_option linter.unusedSimpArgs false
section
namespace Go.Proofs.YtbajncpfmemdgaaGreatDoor
open Go Go.Ev
def Hi:Nat→List Nat:=(fun _=>[])
theorem afv [Env] (A:Nat→List SV→Prop) (Q:V→Prop) (x:Int):WE Tryz.prog 194 Tryz.f194 Tg 0 Hi A (fun v _=>Q v) [.int .u64 x] Go.Ev.start=
  (aa (FloatKind.f64.format.order x.toNat x.toNat != some .eq) (Q (.int .u64 (9221120237041090560:Int))) (Q (.int .u64 x))):=by kernel_rfl
def PI [Env] (vs:List V) (σ:St) (k:ai):Prop:=
 match vs with
 | [.int .u64 x]=>(0≤x∧x<18446744073709551616)∧k (.int .u64 (fG x)) σ
 | _=>False
def KV [Env]:=kS 194 PI Tg
def Hj:Nat→List Nat:=(fun _=>[])
theorem afw [Env] (A:Nat→List SV→Prop) (Q:V→Prop) (x:Int):WE Tryz.prog 261 Tryz.f261 KV 0 Hj A (fun v _=>Q v) [.int .u64 x] Go.Ev.start=
  ((0≤(52:Int)∧Q (.int .i64 (IntKind.i64.wrap (IntKind.u64.wrap (BitVec.ofInt IntKind.u64.bits (x.fdiv (2^min (52:Int).toNat IntKind.u64.bits))&&& BitVec.ofInt IntKind.u64.bits (2047:Int)).toNat))))):=by kernel_rfl
def PJ [Env] (vs:List V) (σ:St) (k:ai):Prop:=
 match vs with
 | [.int .u64 x]=>(0≤x∧x<18446744073709551616)∧k (.int .i64 (dT x)) σ
 | _=>False
def KW [Env]:=kS 261 PJ KV
def Hk:Nat→List Nat:=(fun _=>[])
theorem afx [Env] (A:Nat→List SV→Prop) (Q:V→Prop) (x:Int):WE Tryz.prog 262 Tryz.f262 KW 0 Hk A (fun v _=>Q v) [.int .u64 x] Go.Ev.start=
  (Q (.int .u64 (IntKind.u64.wrap (BitVec.ofInt IntKind.u64.bits x&&& BitVec.ofInt IntKind.u64.bits (4503599627370495:Int)).toNat))):=by kernel_rfl
def PK [Env] (vs:List V) (σ:St) (k:ai):Prop:=
 match vs with
 | [.int .u64 x]=>(0≤x∧x<18446744073709551616)∧k (.int .u64 (gk x)) σ
 | _=>False
def KX [Env]:=kS 262 PK KW
def Hl:Nat→List Nat:=(fun _=>[])
abbrev Xy [Env] (A:Nat→List SV→Prop) (Q:V→Prop) (x:Int):Prop:=
 ((0≤x∧x<18446744073709551616)∧((.i64:IntKind)=.i64∧aa (decide ((dT x)=(2047:Int))) (Q (.int .i64 (2:Int))) (((0≤x∧x<18446744073709551616)∧((.i64:IntKind)=.i64∧aa (decide ((dT x)=(0:Int))) (((0≤x∧x<18446744073709551616)∧((.u64:IntKind)=.u64∧aa (decide ((gk x)=(0:Int))) (Q (.int .i64 (3:Int))) (((0≤x∧x<18446744073709551616)∧((.i64:IntKind)=.i64∧aa (decide ((dT x)=(0:Int))) (Q (.int .i64 (4:Int))) (Q (.int .i64 (5:Int))))))))) (((0≤x∧x<18446744073709551616)∧((.i64:IntKind)=.i64∧aa (decide ((dT x)=(0:Int))) (Q (.int .i64 (4:Int))) (Q (.int .i64 (5:Int)))))))))))
theorem afy [Env] (A:Nat→List SV→Prop) (Q:V→Prop) (x:Int):WE Tryz.prog 237 Tryz.f237 KX 0 Hl A (fun v _=>Q v) [.int .u64 x] Go.Ev.start=
  (((0≤x∧x<18446744073709551616)∧((.i64:IntKind)=.i64∧aa (decide ((dT x)=(2047:Int))) (((0≤x∧x<18446744073709551616)∧((.u64:IntKind)=.u64∧aa (decide ((gk x)≠(0:Int))) (Q (.int .i64 (1:Int))) ((Xy A Q x))))) ((Xy A Q x))))):=by kernel_rfl
def PL [Env] (vs:List V) (σ:St) (k:ai):Prop:=
 match vs with
 | [.int .u64 x]=>(0≤x∧x<18446744073709551616)∧k (.int .i64 (lA x)) σ
 | _=>False
def KY [Env]:=kS 237 PL KX
def Hm:Nat→List Nat:=(fun _=>[])
theorem afz [Env] (A:Nat→List SV→Prop) (Q:V→Prop) (x:Int):WE Tryz.prog 202 Tryz.f202 KY 0 Hm A (fun v _=>Q v) [.int .u64 x] Go.Ev.start=
  (((0≤x∧x<18446744073709551616)∧((.i64:IntKind)=.i64∧aa (decide ((lA x)=(1:Int))) (Q (.int .u64 (9221120237041090560:Int))) (Q (.int .u64 x))))):=by kernel_rfl
def PM [Env] (vs:List V) (σ:St) (k:ai):Prop:=
 match vs with
 | [.int .u64 x]=>(0≤x∧x<18446744073709551616)∧k (.int .u64 (fG x)) σ
 | _=>False
def KZ [Env]:=kS 202 PM KY
def Hn:Nat→List Nat:=(fun _=>[])
theorem afA [Env] (A:Nat→List SV→Prop) (Q:V→Prop) (e:aC):WE Tryz.prog 193 Tryz.f193 KZ 0 Hn A (fun v _=>Q v) [aC.enc e] Go.Ev.start=
  (((.i64:IntKind)=.i64∧aa (decide (e.f0=(1:Int))) (Q (.agg [.int .i64 e.f0,.int .i64 e.f1,.int .u64 (0:Int),.str ([])])) (((.i64:IntKind)=.i64∧aa (decide (e.f0=(2:Int))) (Q (.agg [.int .i64 e.f0,.int .i64 e.f1,.int .u64 (0:Int),.str ([])])) (((.i64:IntKind)=.i64∧aa (decide (e.f0=(3:Int))) (Q (.agg [.int .i64 e.f0,.int .i64 (0:Int),.int .u64 e.f2,.str ([])])) (((.i64:IntKind)=.i64∧aa (decide (e.f0=(4:Int))) (Q (.agg [.int .i64 e.f0,.int .i64 (0:Int),.int .u64 (0:Int),.str e.f3])) (((.i64:IntKind)=.i64∧aa (decide (e.f0=(5:Int))) (Q (.agg [.int .i64 e.f0,.int .i64 (0:Int),.int .u64 (0:Int),.str e.f3])) (Q (.agg [.int .i64 e.f0,.int .i64 (0:Int),.int .u64 (0:Int),.str ([])])))))))))))):=by kernel_rfl
def PN [Env] (vs:List V) (σ:St) (k:ai):Prop:=
 match vs with
 | [.agg [.int .i64 a,.int .i64 b,.int .u64 c,.str s]]=>k (aC.enc (ju ⟨a,b,c,s⟩)) σ
 | _=>False
def K0 [Env]:=kS 193 PN KZ
def Ho:Nat→List Nat:=(fun _=>[])
abbrev Th [Env] (A:Nat→List SV→Prop) (Q:V→Prop) (e:aC):Prop:=
 ((0≤e.f2∧e.f2<18446744073709551616)∧aa (V.beq (.int .u64 e.f2) (.int .u64 e.f2)&&true) (((.u64:IntKind)=.u64∧aa (decide ((fG e.f2)≠e.f2)) (Q (.int .i64 (4:Int))) (((.i64:IntKind)=.i64∧aa (decide ((((len e.f3:Nat):Int))>(64:Int))) (Q (.int .i64 (2:Int))) (((.i64:IntKind)=.i64∧aa (decide (e.f0=(5:Int))) ((e.f3.length≤64∧aa ((!(dR e.f3.length e.f3))) (Q (.int .i64 (7:Int))) (Q (.int .i64 (0:Int))))) (Q (.int .i64 (0:Int))))))))) False)
theorem afB [Env] (A:Nat→List SV→Prop) (Q:V→Prop) (e:aC):WE Tryz.prog 148 Tryz.f148 K0 0 Ho A (fun v _=>Q v) [aC.enc e] Go.Ev.start=
  (((.i64:IntKind)=.i64∧aa (decide (e.f0<(0:Int))) (Q (.int .i64 (5:Int))) (((.i64:IntKind)=.i64∧aa (decide (e.f0≥(6:Int))) (Q (.int .i64 (5:Int))) (aa (V.beq (.agg [.int .i64 e.f0,.int .i64 e.f1,.int .u64 e.f2,.str e.f3]) (.agg [.int .i64 e.f0,.int .i64 e.f1,.int .u64 e.f2,.str e.f3])&&true) (((.i64:IntKind)=.i64∧aa (decide (((ju ⟨e.f0,e.f1,e.f2,e.f3⟩).f0)=e.f0)) (((.i64:IntKind)=.i64∧aa (decide (((ju ⟨e.f0,e.f1,e.f2,e.f3⟩).f1)=e.f1)) (((.u64:IntKind)=.u64∧aa (decide (((ju ⟨e.f0,e.f1,e.f2,e.f3⟩).f2)=e.f2)) (aa (decide (((ju ⟨e.f0,e.f1,e.f2,e.f3⟩).f3)=e.f3)) (((.i64:IntKind)=.i64∧aa (decide (e.f0=(1:Int))) (((.i64:IntKind)=.i64∧aa (decide (e.f1≠(0:Int))) (((.i64:IntKind)=.i64∧aa (decide (e.f1≠(1:Int))) (Q (.int .i64 (6:Int))) ((Th A Q e)))) ((Th A Q e)))) ((Th A Q e)))) (Q (.int .i64 (4:Int)))) (Q (.int .i64 (4:Int))))) (Q (.int .i64 (4:Int))))) (Q (.int .i64 (4:Int))))) False))))):=by kernel_rfl
def PO [Env] (vs:List V) (σ:St) (k:ai):Prop:=
 match vs with
 | [.agg [.int .i64 a,.int .i64 b,.int .u64 c,.str s]]=>(0≤c∧c<18446744073709551616)∧k (.int .i64 (bj ⟨a,b,c,s⟩)) σ
 | _=>False
def K1 [Env]:=kS 148 PO K0
def Hp:Nat→List Nat:=(fun _=>[])
abbrev PQ [Env] (A:Nat→List SV→Prop) (Q:V→Prop) (e:aC):Prop:=
 ((.i64:IntKind)=.i64∧aa (decide ((((len e.f3:Nat):Int))>(64:Int))) (Q (.int .i64 (2:Int))) (((.i64:IntKind)=.i64∧aa (decide (e.f0=(5:Int))) ((e.f3.length≤64∧aa ((!(dR e.f3.length e.f3))) (Q (.int .i64 (7:Int))) (Q (.int .i64 (0:Int))))) (Q (.int .i64 (0:Int))))))
abbrev Ti [Env] (A:Nat→List SV→Prop) (Q:V→Prop) (e:aC):Prop:=
 ((.i64:IntKind)=.i64∧aa (decide (e.f0=(3:Int))) (((0≤e.f2∧e.f2<18446744073709551616)∧aa (V.beq (.int .u64 e.f2) (.int .u64 e.f2)&&true) (((.u64:IntKind)=.u64∧aa (decide ((fG e.f2)≠e.f2)) (Q (.int .i64 (4:Int))) ((PQ A Q e)))) False)) ((PQ A Q e)))
abbrev pF [Env] (A:Nat→List SV→Prop) (Q:V→Prop) (e:aC):Prop:=
 ((.i64:IntKind)=.i64∧aa (decide (e.f0=(1:Int))) (((.i64:IntKind)=.i64∧aa (decide (e.f1≠(0:Int))) (((.i64:IntKind)=.i64∧aa (decide (e.f1≠(1:Int))) (Q (.int .i64 (6:Int))) ((Ti A Q e)))) ((Ti A Q e)))) ((Ti A Q e)))
abbrev Xz [Env] (A:Nat→List SV→Prop) (Q:V→Prop) (e:aC):Prop:=
 ((.i64:IntKind)=.i64∧aa (decide (e.f0<(0:Int))) (Q (.int .i64 (5:Int))) (((.i64:IntKind)=.i64∧aa (decide (e.f0>(5:Int))) (Q (.int .i64 (5:Int))) (((.i64:IntKind)=.i64∧aa (decide (e.f1≠(0:Int))) (((.u64:IntKind)=.u64∧aa (decide (e.f2≠(0:Int))) (((.i64:IntKind)=.i64∧aa (decide (e.f0≠(3:Int))) (Q (.int .i64 (4:Int))) (aa (decide (e.f3≠[])) ((pF A Q e)) ((pF A Q e))))) (aa (decide (e.f3≠[])) ((pF A Q e)) ((pF A Q e))))) (((.u64:IntKind)=.u64∧aa (decide (e.f2≠(0:Int))) (((.i64:IntKind)=.i64∧aa (decide (e.f0≠(3:Int))) (Q (.int .i64 (4:Int))) (aa (decide (e.f3≠[])) ((pF A Q e)) ((pF A Q e))))) (aa (decide (e.f3≠[])) ((pF A Q e)) ((pF A Q e))))))))))
abbrev Tj [Env] (A:Nat→List SV→Prop) (Q:V→Prop) (e:aC):Prop:=
 ((.u64:IntKind)=.u64∧aa (decide (e.f2≠(0:Int))) (((.i64:IntKind)=.i64∧aa (decide (e.f0≠(3:Int))) (Q (.int .i64 (4:Int))) (aa (decide (e.f3≠[])) (Q (.int .i64 (4:Int))) ((pF A Q e))))) (aa (decide (e.f3≠[])) (Q (.int .i64 (4:Int))) ((pF A Q e))))
abbrev XA [Env] (A:Nat→List SV→Prop) (Q:V→Prop) (e:aC):Prop:=
 ((.i64:IntKind)=.i64∧aa (decide (e.f0=(4:Int))) ((Xz A Q e)) (((.i64:IntKind)=.i64∧aa (decide (e.f0=(5:Int))) ((Xz A Q e)) (((.i64:IntKind)=.i64∧aa (decide (e.f0<(0:Int))) (Q (.int .i64 (5:Int))) (((.i64:IntKind)=.i64∧aa (decide (e.f0>(5:Int))) (Q (.int .i64 (5:Int))) (((.i64:IntKind)=.i64∧aa (decide (e.f1≠(0:Int))) ((Tj A Q e)) ((Tj A Q e)))))))))))
abbrev XB [Env] (A:Nat→List SV→Prop) (Q:V→Prop) (e:aC):Prop:=
 ((.i64:IntKind)=.i64∧aa (decide (e.f0<(0:Int))) (Q (.int .i64 (5:Int))) (((.i64:IntKind)=.i64∧aa (decide (e.f0>(5:Int))) (Q (.int .i64 (5:Int))) (((.i64:IntKind)=.i64∧aa (decide (e.f1≠(0:Int))) (Q (.int .i64 (4:Int))) (((.u64:IntKind)=.u64∧aa (decide (e.f2≠(0:Int))) (((.i64:IntKind)=.i64∧aa (decide (e.f0≠(3:Int))) (Q (.int .i64 (4:Int))) (aa (decide (e.f3≠[])) ((pF A Q e)) ((pF A Q e))))) (aa (decide (e.f3≠[])) ((pF A Q e)) ((pF A Q e))))))))))
theorem afC [Env] (A:Nat→List SV→Prop) (Q:V→Prop) (e:aC):WE Tryz.prog 153 Tryz.f153 K1 0 Hp A (fun v _=>Q v) [aC.enc e] Go.Ev.start=
  (((.i64:IntKind)=.i64∧aa (decide (e.f0=(1:Int))) ((XA A Q e)) (((.i64:IntKind)=.i64∧aa (decide (e.f0=(2:Int))) ((XA A Q e)) (((.i64:IntKind)=.i64∧aa (decide (e.f0=(4:Int))) ((XB A Q e)) (((.i64:IntKind)=.i64∧aa (decide (e.f0=(5:Int))) ((XB A Q e)) (((.i64:IntKind)=.i64∧aa (decide (e.f0<(0:Int))) (Q (.int .i64 (5:Int))) (((.i64:IntKind)=.i64∧aa (decide (e.f0>(5:Int))) (Q (.int .i64 (5:Int))) (((.i64:IntKind)=.i64∧aa (decide (e.f1≠(0:Int))) (Q (.int .i64 (4:Int))) ((Tj A Q e)))))))))))))))):=by kernel_rfl
def PR [Env] (vs:List V) (σ:St) (k:ai):Prop:=
 match vs with
 | [.agg [.int .i64 a,.int .i64 b,.int .u64 c,.str s]]=>(0≤c∧c<18446744073709551616)∧k (.int .i64 (bj ⟨a,b,c,s⟩)) σ
 | _=>False
def Ai [Env]:=kS 153 PR K1
def wv:Nat→List Nat:=(fun i=>match i with | 0=>[15,16,17] | _=>[])
theorem XC [Env] (A:Nat→List SV→Prop) (Q:V→Prop) (s:List UInt8):WE Tryz.prog 176 Tryz.f176 Ai 0 wv A (fun v _=>Q v) [.str s] Go.Ev.start=
  (aa (decide (s=[])) (Q (.int .i64 (8:Int))) (((.i64:IntKind)=.i64∧aa (decide ((((len s:Nat):Int))>(16:Int))) (Q (.int .i64 (8:Int))) ((len s≤1099511627776∧(((len s)=(len s)∧1=1)∧A 0 [.row (len s) (dE s) 1,.val (.int .i64 (((len s:Nat):Int))),.val (.int .i64 (0:Int))])))))):=by kernel_rfl
abbrev PS [Env] (A:Nat→List SV→Prop) (Q:V→Prop) (s:List UInt8) (n i:Int):Prop:=
 ((.u8:IntKind)=.u8∧aa (decide ((av s i.toNat)=(95:Int))) (((.i64:IntKind)=.i64∧aa (decide (i=(0:Int))) (Q (.int .i64 (8:Int))) ((((len s)=(len s)∧1=1)∧A 0 [.row (len s) (dE s) 1,.val (.int .i64 n),.val (.int .i64 (IntKind.i64.wrap (i+(1:Int))))])))) (((.i64:IntKind)=.i64∧aa (decide (i=(0:Int))) (Q (.int .i64 (8:Int))) (Q (.int .i64 (8:Int))))))
abbrev PT [Env] (A:Nat→List SV→Prop) (Q:V→Prop) (s:List UInt8) (n i:Int):Prop:=
 ((.u8:IntKind)=.u8∧aa (decide ((av s i.toNat)≥(48:Int))) (((.u8:IntKind)=.u8∧aa (decide ((av s i.toNat)≤(57:Int))) (((.i64:IntKind)=.i64∧aa (decide (i=(0:Int))) (Q (.int .i64 (8:Int))) ((((len s)=(len s)∧1=1)∧A 0 [.row (len s) (dE s) 1,.val (.int .i64 n),.val (.int .i64 (IntKind.i64.wrap (i+(1:Int))))])))) ((PS A Q s n i)))) ((PS A Q s n i)))
abbrev PU [Env] (A:Nat→List SV→Prop) (Q:V→Prop) (s:List UInt8) (n i:Int):Prop:=
 ((.u8:IntKind)=.u8∧aa (decide ((av s i.toNat)=(95:Int))) ((((len s)=(len s)∧1=1)∧A 0 [.row (len s) (dE s) 1,.val (.int .i64 n),.val (.int .i64 (IntKind.i64.wrap (i+(1:Int))))])) ((((len s)=(len s)∧1=1)∧A 0 [.row (len s) (dE s) 1,.val (.int .i64 n),.val (.int .i64 (IntKind.i64.wrap (i+(1:Int))))])))
theorem afD [Env] (A:Nat→List SV→Prop) (Q:V→Prop) (s:List UInt8) (n i:Int):WL Tryz.prog 176 Tryz.f176 Ai 0 wv A (fun v _=>Q v) 0 [.row (len s) (dE s) 1,.val (.int .i64 n),.val (.int .i64 i)]=
  (((.i64:IntKind)=.i64∧aa (decide (i<n)) (((0≤i∧i<((len s:Nat):Int))∧(i.toNat<len s∧((.u8:IntKind)=.u8∧aa (decide ((av s i.toNat)≥(97:Int))) (((.u8:IntKind)=.u8∧aa (decide ((av s i.toNat)≤(122:Int))) (((.u8:IntKind)=.u8∧aa (decide ((av s i.toNat)≥(48:Int))) (((.u8:IntKind)=.u8∧aa (decide ((av s i.toNat)≤(57:Int))) ((((len s)=(len s)∧1=1)∧A 0 [.row (len s) (dE s) 1,.val (.int .i64 n),.val (.int .i64 (IntKind.i64.wrap (i+(1:Int))))])) ((PU A Q s n i)))) ((PU A Q s n i)))) ((PT A Q s n i)))) ((PT A Q s n i)))))) (Q (.int .i64 (0:Int))))):=by kernel_rfl
def PV [Env] (vs:List V) (σ:St) (k:ai):Prop:=
 match vs with
 | [.str s]=>k (.int .i64 (aF s)) σ
 | _=>False
def K2 [Env]:=kS 176 PV Ai
def Hq:Nat→List Nat:=(fun _=>[])
theorem afE [Env] (A:Nat→List SV→Prop) (Q:V→Prop) (c:Int):WE Tryz.prog 152 Tryz.f152 K2 0 Hq A (fun v _=>Q v) [.int .u8 c] Go.Ev.start=
  (((.u8:IntKind)=.u8∧aa (decide (c≥(97:Int))) (((.u8:IntKind)=.u8∧aa (decide (c≤(122:Int))) (Q (.bool true)) (Q (.bool false)))) (Q (.bool false)))):=by kernel_rfl
def PW [Env] (vs:List V) (σ:St) (k:ai):Prop:=
 match vs with
 | [.int .u8 c]=>k (.bool (eC c)) σ
 | _=>False
def Eh [Env]:=kS 152 PW K2
def Aj:Nat→List Nat:=(fun i=>match i with | 0=>[0,3] | _=>[])
theorem afF [Env] (A:Nat→List SV→Prop) (Q:V→Prop) (s:List UInt8):WE Tryz.prog 106 Tryz.f106 Eh 0 Aj A (fun v _=>Q v) [.str s] Go.Ev.start=
  (((.i64:IntKind)=.i64∧aa (decide ((((len s:Nat):Int))<(1:Int))) (Q (.int .i64 (8:Int))) (((.i64:IntKind)=.i64∧aa (decide ((((len s:Nat):Int))>(16:Int))) (Q (.int .i64 (8:Int))) (((0≤(0:Int)∧(0:Int)<((len s:Nat):Int))∧aa ((!(eC (bu s (0:Int))))) (Q (.int .i64 (8:Int))) (A 0 [.val (.str s),.val (.int .i64 (1:Int))]))))))):=by kernel_rfl
theorem afG [Env] (A:Nat→List SV→Prop) (Q:V→Prop) (s:List UInt8) (i:Int):WL Tryz.prog 106 Tryz.f106 Eh 0 Aj A (fun v _=>Q v) 0 [.val (.str s),.val (.int .i64 i)]=
  (((.i64:IntKind)=.i64∧aa (decide (i<(((len s:Nat):Int)))) (((0≤i∧i<((len s:Nat):Int))∧aa ((!(eC (bu s i)))==true) (aa ((!(eC (bu s i)))==true) (aa ((!(eC (bu s i)))==true) (((0≤i∧i<((len s:Nat):Int))∧aa ((!(eC (bu s i)))==true) (((.u8:IntKind)=.u8∧aa (decide ((bu s i)≠(95:Int))) (aa (!(eC (bu s i))) (((0≤i∧i<((len s:Nat):Int))∧((.u8:IntKind)=.u8∧aa (decide ((bu s i)<(48:Int))) (Q (.int .i64 (8:Int))) (((0≤i∧i<((len s:Nat):Int))∧((.u8:IntKind)=.u8∧aa (decide ((bu s i)>(57:Int))) (Q (.int .i64 (8:Int))) (A 0 [.val (.str s),.val (.int .i64 (IntKind.i64.wrap (i+(1:Int))))]))))))) (A 0 [.val (.str s),.val (.int .i64 (IntKind.i64.wrap (i+(1:Int))))])) (aa (!(eC (bu s i))) (A 0 [.val (.str s),.val (.int .i64 (IntKind.i64.wrap (i+(1:Int))))]) (A 0 [.val (.str s),.val (.int .i64 (IntKind.i64.wrap (i+(1:Int))))])))) (aa (!(eC (bu s i))) False (A 0 [.val (.str s),.val (.int .i64 (IntKind.i64.wrap (i+(1:Int))))])))) (aa ((!(eC (bu s i)))==true) False (aa (!(eC (bu s i))) False (A 0 [.val (.str s),.val (.int .i64 (IntKind.i64.wrap (i+(1:Int))))])))) (aa ((!(eC (bu s i)))==true) False (aa ((!(eC (bu s i)))==true) False (aa (!(eC (bu s i))) False (A 0 [.val (.str s),.val (.int .i64 (IntKind.i64.wrap (i+(1:Int))))]))))) (aa ((!(eC (bu s i)))==true) (aa ((!(eC (bu s i)))==true) False (aa ((!(eC (bu s i)))==true) False (aa (!(eC (bu s i))) False (A 0 [.val (.str s),.val (.int .i64 (IntKind.i64.wrap (i+(1:Int))))])))) (aa ((!(eC (bu s i)))==true) False (aa ((!(eC (bu s i)))==true) False (aa (!(eC (bu s i))) False (A 0 [.val (.str s),.val (.int .i64 (IntKind.i64.wrap (i+(1:Int))))]))))))) (Q (.int .i64 (0:Int))))):=by kernel_rfl
def PX [Env] (vs:List V) (σ:St) (k:ai):Prop:=
 match vs with
 | [.str s]=>k (.int .i64 (aF s)) σ
 | _=>False
def Ei [Env]:=kS 106 PX Eh
def Ak:Nat→List Nat:=(fun i=>match i with | 0=>[0,5,8,9,10] | _=>[])
theorem afH [Env] (A:Nat→List SV→Prop) (Q:V→Prop) (s:List UInt8) (n:Nat) (h:Nat→List UInt8):WE Tryz.prog 222 Tryz.f222 Ei 0 Ak A (fun v _=>Q v) [.str s,V.arr n (fun i=>V.str (h i)) 1 false false] Go.Ev.start=
  (A 0 [.val (.str s),.val (.int .i64 (0:Int)),.val (V.arr n (fun i=>V.str (h i)) 1 false false),.val (.int .i64 (((n:Nat):Int))),.val (.int .i64 (0:Int))]):=by kernel_rfl
theorem afI [Env] (A:Nat→List SV→Prop) (Q:V→Prop) (s:List UInt8) (n:Nat) (h:Nat→List UInt8) (c m i:Int):WL Tryz.prog 222 Tryz.f222 Ei 0 Ak A (fun v _=>Q v) 0 [.val (.str s),.val (.int .i64 c),.val (V.arr n (fun i=>V.str (h i)) 1 false false),.val (.int .i64 m),.val (.int .i64 i)]=
  (((.i64:IntKind)=.i64∧aa (decide (i<m)) (((0≤i∧i<((n:Nat):Int))∧aa (decide ((h i.toNat)=s)) (A 0 [.val (.str s),.val (.int .i64 (IntKind.i64.wrap (c+(1:Int)))),.val (V.arr n (fun i=>V.str (h i)) 1 false false),.val (.int .i64 m),.val (.int .i64 (IntKind.i64.wrap (i+(1:Int))))]) (A 0 [.val (.str s),.val (.int .i64 c),.val (V.arr n (fun i=>V.str (h i)) 1 false false),.val (.int .i64 m),.val (.int .i64 (IntKind.i64.wrap (i+(1:Int))))]))) (Q (.int .i64 c)))):=by kernel_rfl
def PY [Env] (vs:List V) (σ:St) (k:ai):Prop:=
 match vs with
 | [.str s,.arr n f 1 false false]=>∃q:Nat→List UInt8,f=(fun i=>V.str (q i))∧n≤1000000∧k (.int .i64 (kM s q n)) σ
 | _=>False
def Ej [Env]:=kS 222 PY Ei
def Al:Nat→List Nat:=(fun i=>match i with | 0=>[0,5,6,7] | _=>[])
theorem afJ [Env] (A:Nat→List SV→Prop) (Q:V→Prop) (n:Nat) (h:Nat→List UInt8):WE Tryz.prog 178 Tryz.f178 Ej 0 Al A (fun v _=>Q v) [V.arr n (fun i=>V.str (h i)) 1 false false] Go.Ev.start=
  (A 0 [.val (V.arr n (fun i=>V.str (h i)) 1 false false),.val (V.arr n (fun i=>V.str (h i)) 1 false false),.val (.int .i64 (((n:Nat):Int))),.val (.int .i64 (0:Int))]):=by kernel_rfl
theorem afK [Env] (A:Nat→List SV→Prop) (Q:V→Prop) (n:Nat) (h:Nat→List UInt8) (m i:Int):WL Tryz.prog 178 Tryz.f178 Ej 0 Al A (fun v _=>Q v) 0 [.val (V.arr n (fun i=>V.str (h i)) 1 false false),.val (V.arr n (fun i=>V.str (h i)) 1 false false),.val (.int .i64 m),.val (.int .i64 i)]=
  (((.i64:IntKind)=.i64∧aa (decide (i<m)) (((0≤i∧i<((n:Nat):Int))∧(∃q:Nat→List UInt8,(fun i=>V.str (h i))=(fun i=>V.str (q i))∧n≤1000000∧((.i64:IntKind)=.i64∧aa (decide ((kM ((h i.toNat)) q n)>(1:Int))) (Q (.bool false)) (A 0 [.val (V.arr n (fun i=>V.str (h i)) 1 false false),.val (V.arr n (fun i=>V.str (h i)) 1 false false),.val (.int .i64 m),.val (.int .i64 (IntKind.i64.wrap (i+(1:Int))))]))))) (Q (.bool true)))):=by kernel_rfl
def PZ [Env] (vs:List V) (σ:St) (k:ai):Prop:=
 match vs with
 | [.arr n f 1 false false]=>∃q:Nat→List UInt8,f=(fun i=>V.str (q i))∧n≤1000000∧k (.bool (fU q n)) σ
 | _=>False
def Ek [Env]:=kS 178 PZ Ej
def El:Nat→List Nat:=(fun i=>match i with | 0=>[0,1,5] | _=>[])
theorem e42 [Env] (A:Nat→List SV→Prop) (Q:V→Prop) (n:Nat) (h:Nat→List UInt8) (s:List UInt8):WE Tryz.prog 42 Tryz.f42 Ek 0 El A (fun v _=>Q v) [V.arr n (fun i=>V.str (h i)) 1 false false,.str s] Go.Ev.start=
  (A 0 [.val (V.arr n (fun i=>V.str (h i)) 1 false false),.val (.str s),.val (.int .i64 (0:Int))]):=by kernel_rfl
theorem r42 [Env] (A:Nat→List SV→Prop) (Q:V→Prop) (n:Nat) (h:Nat→List UInt8) (s:List UInt8) (i:Int):WL Tryz.prog 42 Tryz.f42 Ek 0 El A (fun v _=>Q v) 0 [.val (V.arr n (fun i=>V.str (h i)) 1 false false),.val (.str s),.val (.int .i64 i)]=
  (((.i64:IntKind)=.i64∧aa (decide (i<(((n:Nat):Int)))) (((0≤i∧i<((n:Nat):Int))∧aa (decide ((h i.toNat)=s)) (Q (.int .i64 i)) (A 0 [.val (V.arr n (fun i=>V.str (h i)) 1 false false),.val (.str s),.val (.int .i64 (IntKind.i64.wrap (i+(1:Int))))]))) (Q (.int .i64 (-1:Int))))):=by kernel_rfl
def XD [Env] (vs:List V) (σ:St) (k:ai):Prop:=
 match vs with
 | [.arr n f 1 false false,.str s]=>∃q:Nat→List UInt8,f=(fun i=>V.str (q i))∧n≤1000000∧k (.int .i64 (bT s q n)) σ
 | _=>False
def Em [Env]:=kS 42 XD Ek
def Am:Nat→List Nat:=(fun i=>match i with | 0=>[0,3] | _=>[])
theorem afL [Env] (A:Nat→List SV→Prop) (Q:V→Prop) (n:Nat) (h:Nat→List UInt8):WE Tryz.prog 108 Tryz.f108 Em 0 Am A (fun v _=>Q v) [V.arr n (fun i=>V.str (h i)) 1 false false] Go.Ev.start=
  (A 0 [.val (V.arr n (fun i=>V.str (h i)) 1 false false),.val (.int .i64 (0:Int))]):=by kernel_rfl
theorem afM [Env] (A:Nat→List SV→Prop) (Q:V→Prop) (n:Nat) (h:Nat→List UInt8) (i:Int):WL Tryz.prog 108 Tryz.f108 Em 0 Am A (fun v _=>Q v) 0 [.val (V.arr n (fun i=>V.str (h i)) 1 false false),.val (.int .i64 i)]=
  (((.i64:IntKind)=.i64∧aa (decide (i<(((n:Nat):Int)))) (((0≤i∧i<((n:Nat):Int))∧(∃q:Nat→List UInt8,(fun i=>V.str (h i))=(fun i=>V.str (q i))∧n≤1000000∧((.i64:IntKind)=.i64∧aa (decide ((bT ((h i.toNat)) q n)≠i)) (Q (.bool false)) (A 0 [.val (V.arr n (fun i=>V.str (h i)) 1 false false),.val (.int .i64 (IntKind.i64.wrap (i+(1:Int))))]))))) (Q (.bool true)))):=by kernel_rfl
def P0 [Env] (vs:List V) (σ:St) (k:ai):Prop:=
 match vs with
 | [.arr n f 1 false false]=>∃q:Nat→List UInt8,f=(fun i=>V.str (q i))∧n≤1000000∧k (.bool (fU q n)) σ
 | _=>False
def En [Env]:=kS 108 P0 Em
end Go.Proofs.YtbajncpfmemdgaaGreatDoor
end
section
namespace Go.Proofs.YtbajncpfmemdgaaGreatDoor
open Go Go.Ev
def An:Nat→List Nat:=(fun i=>match i with | 0=>[3,9,10,11] | _=>[])
theorem afN [Env] (A:Nat→List SV→Prop) (Q:V→St→Prop) (n:Nat) (g:Nat→ak):WE Tryz.prog 179 Tryz.f179 En 0 An A Q [V.arr n (fun i=>ak.enc (g i)) 7 false false] Go.Ev.start=
  (((0≤(((n:Nat):Int))∧(((n:Nat):Int))≤(((n:Nat):Int))∧(((n:Nat):Int)).toNat*16≤1099511627776∧(((n:Nat):Int))≤1099511627776)∧(((((n:Nat):Int)).toNat≤(((n:Nat):Int)).toNat∧(((n:Nat):Int)).toNat*1=(((n:Nat):Int)).toNat*1)∧A 0 [.row ((((n:Nat):Int)).toNat) (fun _=>.agg [.str ([])]) 1,.val (V.arr n (fun i=>ak.enc (g i)) 7 false false),.val (.int .i64 (((n:Nat):Int))),.val (.int .i64 (0:Int))]))):=by kernel_rfl
theorem afO [Env] (A:Nat→List SV→Prop) (Q:V→St→Prop) (n:Nat) (g:Nat→ak) (f:Nat→V) (m i:Int):WL Tryz.prog 179 Tryz.f179 En 0 An A Q 0 [.row n f 1,.val (V.arr n (fun i=>ak.enc (g i)) 7 false false),.val (.int .i64 m),.val (.int .i64 i)]=
  (((.i64:IntKind)=.i64∧aa (decide (i<m)) (((0≤i∧i<((n:Nat):Int))∧((0≤i∧i<((n:Nat):Int))∧(i.toNat<n∧((n=n∧1=1)∧A 0 [.row n (eV f i.toNat (.str ((g i.toNat).f0))) 1,.val (V.arr n (fun i=>ak.enc (g i)) 7 false false),.val (.int .i64 m),.val (.int .i64 (IntKind.i64.wrap (i+(1:Int))))]))))) (Q (.own 0 n 1) ⟨(St.new Go.Ev.start 0 (.row n f 1 false)).heap,1⟩))):=by kernel_rfl
def P1 [Env] (vs:List V) (σ:St) (k:ai):Prop:=
 match vs with
 | [.arr n f 7 false false]=>∃q:Nat→ak,f=(fun i=>ak.enc (q i))∧n≤1000∧k (.arr n (fun i=>V.str (q i).f0) 1 false false) σ
 | _=>False
def Ao [Env]:=kS 179 P1 En
def wx:Nat→List Nat:=(fun i=>match i with | 0=>[0,3,4] | _=>[])
theorem afP [Env] (A:Nat→List SV→Prop) (Q:V→St→Prop) (n:Nat) (g:Nat→ak):WE Tryz.prog 109 Tryz.f109 Ao 0 wx A Q [V.arr n (fun i=>ak.enc (g i)) 7 false false] Go.Ev.start=
  (A 0 [.val (V.arr n (fun i=>ak.enc (g i)) 7 false false),.val (.aj),.val (.int .i64 (0:Int))]):=by kernel_rfl
theorem ab6 [Env] (A:Nat→List SV→Prop) (Q:V→St→Prop) (n:Nat) (g:Nat→ak) (i:Int):WL Tryz.prog 109 Tryz.f109 Ao 0 wx A Q 0 [.val (V.arr n (fun i=>ak.enc (g i)) 7 false false),.val (.aj),.val (.int .i64 i)]=
  (((.i64:IntKind)=.i64∧aa (decide (i<(((n:Nat):Int)))) (((0≤i∧i<((n:Nat):Int))∧(((1:Nat)=1∧(1:Nat)=1∧1*1=1*1)∧A 0 [.val (V.arr n (fun i=>ak.enc (g i)) 7 false false),.row 1 (fun _=>.agg [.str ((g i.toNat).f0)]) 1,.val (.int .i64 (IntKind.i64.wrap (i+(1:Int))))]))) (Q (.aj) ⟨Go.Ev.start.heap,0⟩))):=by kernel_rfl
theorem ab7 [Env] (A:Nat→List SV→Prop) (Q:V→St→Prop) (n:Nat) (g:Nat→ak) (m:Nat) (f:Nat→V) (i:Int):WL Tryz.prog 109 Tryz.f109 Ao 0 wx A Q 0 [.val (V.arr n (fun i=>ak.enc (g i)) 7 false false),.row m f 1,.val (.int .i64 i)]=
  (((.i64:IntKind)=.i64∧aa (decide (i<(((n:Nat):Int)))) (((0≤i∧i<((n:Nat):Int))∧((m=m∧(m+1)*16≤1099511627776)∧(((m+1)=(m+1)∧1=1)∧A 0 [.val (V.arr n (fun i=>ak.enc (g i)) 7 false false),.row (m+1) (cw m f (fun _=>.agg [.str ((g i.toNat).f0)])) 1,.val (.int .i64 (IntKind.i64.wrap (i+(1:Int))))])))) (Q (.own 0 m 1) ⟨(St.new Go.Ev.start 0 (.row m f 1 false)).heap,1⟩))):=by kernel_rfl
def P2 [Env] (vs:List V) (σ:St) (k:ai):Prop:=
 match vs with
 | [.arr n f 7 false false]=>∃q:Nat→ak,f=(fun i=>ak.enc (q i))∧n≤1000∧k (.arr n (fun i=>V.str (q i).f0) 1 false false) σ
 | _=>False
def K3 [Env]:=kS 109 P2 Ao
def Hr:Nat→List Nat:=(fun _=>[])
theorem afQ [Env] (A:Nat→List SV→Prop) (Q:V→Prop) (e:ak):WE Tryz.prog 181 Tryz.f181 K3 0 Hr A (fun v _=>Q v) [ak.enc e] Go.Ev.start=
  (Q (.bool e.f2)):=by kernel_rfl
def P3 [Env] (vs:List V) (σ:St) (k:ai):Prop:=
 (∃e:ak,vs=[ak.enc e])∧match vs with
 | [.agg [_,_,.bool b,_,_,_,_]]=>k (.bool b) σ
 | _=>False
def Eo [Env]:=kS 181 P3 K3
def Ap:Nat→List Nat:=(fun i=>match i with | 0=>[0,1,7,8] | _=>[])
theorem afR [Env] (A:Nat→List SV→Prop) (Q:V→Prop) (n:Nat) (g:Nat→ak):WE Tryz.prog 223 Tryz.f223 Eo 0 Ap A (fun v _=>Q v) [V.arr n (fun i=>ak.enc (g i)) 7 false false,.func (.func 181) [] []] Go.Ev.start=
  (A 0 [.val (V.arr n (fun i=>ak.enc (g i)) 7 false false),.val (.func (.func 181) [] []),.val (.int .i64 (((n:Nat):Int))),.val (.int .i64 (0:Int))]):=by kernel_rfl
theorem afS [Env] (A:Nat→List SV→Prop) (Q:V→Prop) (n:Nat) (g:Nat→ak) (m i:Int):WL Tryz.prog 223 Tryz.f223 Eo 0 Ap A (fun v _=>Q v) 0 [.val (V.arr n (fun i=>ak.enc (g i)) 7 false false),.val (.func (.func 181) [] []),.val (.int .i64 m),.val (.int .i64 i)]=
  (((.i64:IntKind)=.i64∧aa (decide (i<m)) (((0≤i∧i<((n:Nat):Int))∧((∃q:ak,[ak.enc (g i.toNat)]=[ak.enc q])∧aa ((g i.toNat).f2) (Q (.int .i64 i)) (A 0 [.val (V.arr n (fun i=>ak.enc (g i)) 7 false false),.val (.func (.func 181) [] []),.val (.int .i64 m),.val (.int .i64 (IntKind.i64.wrap (i+(1:Int))))])))) (Q (.int .i64 (-1:Int))))):=by kernel_rfl
def P4 [Env] (vs:List V) (σ:St) (k:ai):Prop:=
 match vs with
 | [.arr n f 7 false false,.func (.func 181) [] []]=>∃q:Nat→ak,f=(fun i=>ak.enc (q i))∧n≤1000∧∀c:Int,(0≤c↔eP q n=true)→k (.int .i64 c) σ
 | _=>False
def K4 [Env]:=kS 223 P4 Eo
def Hs:Nat→List Nat:=(fun _=>[])
theorem afT [Env] (A:Nat→List SV→Prop) (Q:V→Prop) (n:Nat) (g:Nat→ak):WE Tryz.prog 180 Tryz.f180 K4 0 Hs A (fun v _=>Q v) [V.arr n (fun i=>ak.enc (g i)) 7 false false,.func (.func 181) [] []] Go.Ev.start=
  ((∃q:Nat→ak,(fun i=>ak.enc (g i))=(fun i=>ak.enc (q i))∧n≤1000∧∀c:Int,(0≤c↔eP q n=true)→((.i64:IntKind)=.i64∧aa (decide (c≥(0:Int))) (Q (.bool true)) (Q (.bool false))))):=by kernel_rfl
def P5 [Env] (vs:List V) (σ:St) (k:ai):Prop:=
 match vs with
 | [.arr n f 7 false false,.func (.func 181) [] []]=>∃q:Nat→ak,f=(fun i=>ak.enc (q i))∧n≤1000∧k (.bool (eP q n)) σ
 | _=>False
def K5 [Env]:=kS 180 P5 K4
def Ht:Nat→List Nat:=(fun _=>[])
theorem afU [Env] (A:Nat→List SV→Prop) (Q:V→Prop) (e:ak):WE Tryz.prog 177 Tryz.f177 K5 0 Ht A (fun v _=>Q v) [ak.enc e] Go.Ev.start=
  (((.i64:IntKind)=.i64∧aa (decide ((aF e.f0)≠(0:Int))) (Q (.iface 216 (.agg [.int .i64 (aF e.f0)]))) (((.i64:IntKind)=.i64∧aa (decide (e.f1<(1:Int))) (Q (.iface 216 (.agg [.int .i64 (5:Int)]))) (((.i64:IntKind)=.i64∧aa (decide (e.f1>(5:Int))) (Q (.iface 216 (.agg [.int .i64 (5:Int)]))) (((0≤e.f3.f2∧e.f3.f2<18446744073709551616)∧((.i64:IntKind)=.i64∧aa (decide ((bj ⟨e.f3.f0,e.f3.f1,e.f3.f2,e.f3.f3⟩)≠(0:Int))) (Q (.iface 216 (.agg [.int .i64 (bj ⟨e.f3.f0,e.f3.f1,e.f3.f2,e.f3.f3⟩)]))) (((.i64:IntKind)=.i64∧aa (decide (e.f3.f0≠(0:Int))) (((.i64:IntKind)=.i64∧aa (decide (e.f3.f0≠e.f1)) (Q (.iface 216 (.agg [.int .i64 (11:Int)]))) (Q (.bd)))) (Q (.bd))))))))))))):=by kernel_rfl
def P6 [Env] (vs:List V) (σ:St) (k:ai):Prop:=
 ∃e:ak,vs=[ak.enc e]∧mv e∧(bJ e=0→k .bd σ)∧(bJ e≠0→k (.iface 216 (.agg [.int .i64 (bJ e)])) σ)
def K6 [Env]:=kS 177 P6 K5
def Hu:Nat→List Nat:=(fun _=>[])
theorem afV [Env] (A:Nat→List SV→Prop) (Q:V→Prop) (e:ak):WE Tryz.prog 107 Tryz.f107 K6 0 Hu A (fun v _=>Q v) [ak.enc e] Go.Ev.start=
  (((.i64:IntKind)=.i64∧aa (decide ((aF e.f0)≠(0:Int))) (Q (.int .i64 (aF e.f0))) (((.i64:IntKind)=.i64∧aa (decide (e.f1<(1:Int))) (Q (.int .i64 (5:Int))) (((.i64:IntKind)=.i64∧aa (decide (e.f1>(5:Int))) (Q (.int .i64 (5:Int))) (((0≤e.f3.f2∧e.f3.f2<18446744073709551616)∧((.i64:IntKind)=.i64∧aa (decide ((bj ⟨e.f3.f0,e.f3.f1,e.f3.f2,e.f3.f3⟩)≠(0:Int))) (Q (.int .i64 (bj ⟨e.f3.f0,e.f3.f1,e.f3.f2,e.f3.f3⟩))) (((.i64:IntKind)=.i64∧aa (decide (e.f3.f0≠(0:Int))) (((.i64:IntKind)=.i64∧aa (decide (e.f3.f0≠e.f1)) (Q (.int .i64 (11:Int))) (Q (.int .i64 (0:Int))))) (Q (.int .i64 (0:Int)))))))))))))):=by kernel_rfl
def P7 [Env] (vs:List V) (σ:St) (k:ai):Prop:=
 ∃e:ak,vs=[ak.enc e]∧mv e∧k (.int .i64 (bJ e)) σ
def Ep [Env]:=kS 107 P7 K6
def Aq:Nat→List Nat:=(fun i=>match i with | 0=>[1,42,43,44] | _=>[])
theorem afW [Env] (A:Nat→List SV→Prop) (Q:V→Prop) (e:ae):WE Tryz.prog 134 Tryz.f134 Ep 0 Aq A (fun v _=>Q v) [ae.enc e] Go.Ev.start=
  (((.i64:IntKind)=.i64∧aa (decide ((aF e.f0)≠(0:Int))) (Q (.iface 216 (.agg [.int .i64 (aF e.f0)]))) (((.i64:IntKind)=.i64∧aa (decide ((((e.f2.length:Nat):Int))<(1:Int))) (Q (.iface 216 (.agg [.int .i64 (2:Int)]))) (((.i64:IntKind)=.i64∧aa (decide ((((e.f2.length:Nat):Int))>(8:Int))) (Q (.iface 216 (.agg [.int .i64 (2:Int)]))) (((.i64:IntKind)=.i64∧aa (decide (e.f1<(1:Int))) (Q (.iface 216 (.agg [.int .i64 (1:Int)]))) (((.i64:IntKind)=.i64∧aa (decide (e.f1>((if (((e.f2.length:Nat):Int))<(3:Int) then(((e.f2.length:Nat):Int)) else(3:Int))))) (Q (.iface 216 (.agg [.int .i64 (1:Int)]))) (A 0 [.box [.str e.f0,.int .i64 e.f1,af ak.enc 7 e.f2],.val (af ak.enc 7 e.f2),.val (.int .i64 (((e.f2.length:Nat):Int))),.val (.int .i64 (0:Int))]))))))))))):=by kernel_rfl
theorem afX [Env] (A:Nat→List SV→Prop) (Q:V→Prop) (e:ae) (m i:Int):WL Tryz.prog 134 Tryz.f134 Ep 0 Aq A (fun v _=>Q v) 0 [.box [.str e.f0,.int .i64 e.f1,af ak.enc 7 e.f2],.val (af ak.enc 7 e.f2),.val (.int .i64 m),.val (.int .i64 i)]=
  (((.i64:IntKind)=.i64∧aa (decide (i<m)) (((0≤i∧i<((e.f2.length:Nat):Int))∧(∃q8:ak,[.agg [.str ((e.f2.getD i.toNat default).f0),.int .i64 ((e.f2.getD i.toNat default).f1),.bool (e.f2.getD i.toNat default).f2,.int .i64 ((e.f2.getD i.toNat default).f3.f0),.int .i64 ((e.f2.getD i.toNat default).f3.f1),.int .u64 ((e.f2.getD i.toNat default).f3.f2),.str ((e.f2.getD i.toNat default).f3.f3)]]=[ak.enc q8]∧mv q8∧(bJ q8=0→A 0 [.box [.str e.f0,.int .i64 e.f1,af ak.enc 7 e.f2],.val (af ak.enc 7 e.f2),.val (.int .i64 m),.val (.int .i64 (IntKind.i64.wrap (i+(1:Int))))])∧(bJ q8≠0→Q (.iface 216 (.agg [.int .i64 (bJ q8)])))))) ((∃q9:Nat→ak,(fun i=>ak.enc (e.f2.getD i default))=(fun i=>ak.enc (q9 i))∧e.f2.length≤1000∧(∃q10:Nat→List UInt8,(fun i=>V.str ((fun i=>(q9 i).f0) i))=(fun i=>V.str (q10 i))∧e.f2.length≤1000000∧aa ((!(fU q10 e.f2.length))) (Q (.iface 216 (.agg [.int .i64 (12:Int)]))) (((0≤(0:Int)∧(0:Int)≤e.f1∧e.f1≤((e.f2.length:Nat):Int)∧((e.f2.length:Nat):Int)≤((e.f2.length:Nat):Int))∧(∃q:Nat→ak,(fun i=>ak.enc ((fun i=>e.f2.getD (Nat.add (0:Int).toNat i) default) i))=(fun i=>ak.enc (q i))∧e.f1.toNat-(0:Int).toNat≤1000∧aa ((eP q (e.f1.toNat-(0:Int).toNat))) (Q (.iface 216 (.agg [.int .i64 (11:Int)]))) (Q (.bd)))))))))):=by kernel_rfl
def P8 [Env] (vs:List V) (σ:St) (k:ai):Prop:=
 ∃e:ae,vs=[ae.enc e]∧eX e∧(bK e=0→k .bd σ)∧(bK e≠0→k (.iface 216 (.agg [.int .i64 (bK e)])) σ)
def XE [Env]:=kS 134 P8 Ep
def P9 [Env] (vs:List V) (σ:St) (k:ai):Prop:=
 match vs with
 | [.bd]=>k (.int .i64 0) σ
 | [.iface 216 (.agg [.int .i64 n])]=>k (.int .i64 n) σ
 | _=>False
def K7 [Env]:=kS 133 P9 XE
def NG:Nat→List Nat:=(fun _=>[])
theorem e81 [Env] (A:Nat→List SV→Prop) (Q:V→Prop) (e:ae):WE Tryz.prog 81 Tryz.f81 K7 0 NG A (fun v _=>Q v) [ae.enc e] Go.Ev.start=
  ((∃NH:ae,[.agg [.str e.f0,.int .i64 e.f1,af ak.enc 7 e.f2]]=[ae.enc NH]∧eX NH∧(bK NH=0→Q (.int .i64 (0:Int)))∧(bK NH≠0→Q (.int .i64 (bK NH))))):=by kernel_rfl
def XF [Env] (vs:List V) (σ:St) (k:ai):Prop:=
 ∃e:ae,vs=[ae.enc e]∧eX e∧k (.int .i64 (bK e)) σ
def Ar [Env]:=kS 81 XF K7
def y7:Nat→List Nat:=(fun i=>match i with | 0=>[1,4] | 1=>[1,6] | _=>[])
theorem e57 [Env] (A:Nat→List SV→Prop) (Q:V→Prop) (e:ae):WE Tryz.prog 57 Tryz.f57 Ar 0 y7 A (fun v _=>Q v) [ae.enc e] Go.Ev.start=
  (((.i64:IntKind)=.i64∧aa (decide ((aF e.f0)≠(0:Int))) (Q (.int .i64 (aF e.f0))) (((.i64:IntKind)=.i64∧aa (decide ((((e.f2.length:Nat):Int))<(1:Int))) (Q (.int .i64 (2:Int))) (((.i64:IntKind)=.i64∧aa (decide ((((e.f2.length:Nat):Int))>(8:Int))) (Q (.int .i64 (2:Int))) (((.i64:IntKind)=.i64∧aa (decide (e.f1<(1:Int))) (Q (.int .i64 (1:Int))) (((.i64:IntKind)=.i64∧aa (decide (e.f1>(3:Int))) (Q (.int .i64 (1:Int))) (((.i64:IntKind)=.i64∧aa (decide (e.f1>(((e.f2.length:Nat):Int)))) (Q (.int .i64 (1:Int))) (A 0 [.box [.str e.f0,.int .i64 e.f1,af ak.enc 7 e.f2],.val (.int .i64 (0:Int))]))))))))))))):=by kernel_rfl
theorem afY [Env] (A:Nat→List SV→Prop) (Q:V→Prop) (e:ae) (i:Int):WL Tryz.prog 57 Tryz.f57 Ar 0 y7 A (fun v _=>Q v) 0 [.box [.str e.f0,.int .i64 e.f1,af ak.enc 7 e.f2],.val (.int .i64 i)]=
  (((.i64:IntKind)=.i64∧aa (decide (i<(((e.f2.length:Nat):Int)))) (((0≤i∧i<((e.f2.length:Nat):Int))∧(∃Tk:ak,[ak.enc (e.f2.getD i.toNat default)]=[ak.enc Tk]∧mv Tk∧((.i64:IntKind)=.i64∧aa (decide ((bJ Tk)≠(0:Int))) (Q (.int .i64 (bJ Tk))) (A 0 [.box [.str e.f0,.int .i64 e.f1,af ak.enc 7 e.f2],.val (.int .i64 (IntKind.i64.wrap (i+(1:Int))))]))))) ((∃q13:Nat→ak,(fun i=>ak.enc (e.f2.getD i default))=(fun i=>ak.enc (q13 i))∧e.f2.length≤1000∧(∃q14:Nat→List UInt8,(fun i=>V.str ((fun i=>(q13 i).f0) i))=(fun i=>V.str (q14 i))∧e.f2.length≤1000000∧aa ((!(fU q14 e.f2.length))) (Q (.int .i64 (12:Int))) (A 1 [.box [.str e.f0,.int .i64 e.f1,af ak.enc 7 e.f2],.val (.int .i64 (0:Int))])))))):=by kernel_rfl
theorem afZ [Env] (A:Nat→List SV→Prop) (Q:V→Prop) (e:ae) (i:Int):WL Tryz.prog 57 Tryz.f57 Ar 0 y7 A (fun v _=>Q v) 1 [.box [.str e.f0,.int .i64 e.f1,af ak.enc 7 e.f2],.val (.int .i64 i)]=
  (((.i64:IntKind)=.i64∧aa (decide (i<e.f1)) (((0≤i∧i<((e.f2.length:Nat):Int))∧aa ((e.f2.getD i.toNat default).f2) (Q (.int .i64 (11:Int))) (A 1 [.box [.str e.f0,.int .i64 e.f1,af ak.enc 7 e.f2],.val (.int .i64 (IntKind.i64.wrap (i+(1:Int))))]))) (Q (.int .i64 (0:Int))))):=by kernel_rfl
def XG [Env] (vs:List V) (σ:St) (k:ai):Prop:=
 ∃e:ae,vs=[ae.enc e]∧eX e∧k (.int .i64 (bK e)) σ
def As [Env]:=kS 57 XG Ar
end Go.Proofs.YtbajncpfmemdgaaGreatDoor
end
section
namespace Go.Proofs.YtbajncpfmemdgaaGreatDoor
open Go Go.Ev Go.IntWalk
instance akb:Go.Ev.iX Tryz.prog:=⟨by kernel_rfl⟩
section
variable [Env]
def dK (v:V):Prop:=∀(ρ ρ':Ren) (x:Value),au ρ v x→au ρ' v x
theorem dK.int (k:IntKind) (n:Int):dK (.int k n):=fun _ _ _ h=>by cases h;exact .int _ _
theorem dK.bool (b:Bool):dK (.bool b):=fun _ _ _ h=>by cases h;exact .bool _
theorem dK.str (s:List UInt8):dK (.str s):=fun _ _ _ h=>by cases h;exact .str _
theorem dK.bd:dK .bd:=fun _ _ _ h=>by cases h;exact .bd
theorem Tl {l:List V} (h:∀v∈l,dK v) {ρ ρ':Ren} {xs:List Value} (hx:aB ρ l xs):aB ρ' l xs:=by
 induction l generalizing xs with
 | nil=>cases hx;exact .nil
 | cons v l ih=>
  cases hx with
  | cons h1 h2=>exact .cons (h v List.mem_cons_self _ _ _ h1) (ih (fun u hu=>h u (List.mem_cons_of_mem _ hu)) h2)
theorem dK.tuple {l:List V} (h:∀v∈l,dK v):dK (.tuple l):=fun _ _ _ hx=>by cases hx with | tuple hx=>exact .tuple (Tl h hx)
theorem dK.agg {l:List V} (h:∀v∈l,dK v):dK (.agg l):=fun _ _ _ hx=>by cases hx with | agg hx=>exact .agg (Tl h hx)
theorem dK.iface {t:TypeId} {v:V} (h:dK v):dK (.iface t v):=fun _ _ _ hx=>by cases hx with | iface hx=>exact .iface (h _ _ _ hx)
theorem gb:∀v∈([]:List V),dK v:=fun _ h=>by cases h
theorem bD {v:V} {l:List V} (h:dK v) (hl:∀u∈l,dK u):∀u∈v::l,dK u:=fun u hu=>by
 rcases List.mem_cons.1 hu with rfl | hu
 ·exact h
 ·exact hl u hu
variable {vs us:List V} {σ:St} {k:ai} {f:FuncId} {P:Program}
theorem ag.aU {A:V→Prop} (hf:bA σ vs us) (hA:∀v,A v→dK v) (h:ag P f us (fun v _=>A v) Go.Ev.start) (hk:∀v,A v→k v σ):ag P f vs k σ:=
 (ag.Ta (Q:=A) hf (fun v hv ρ ρ' x hx=>hA v hv ρ ρ' x hx) h).mono fun v τ ⟨h1,h2⟩=>by subst h2;exact hk v h1
theorem ag.cb {v:V} (hf:bA σ vs us) (hA:dK v) (h:ag P f us (fun u _=>u=v) Go.Ev.start) (hk:k v σ):ag P f vs k σ:=
 ag.aU hf (fun u e=>by rw[e];exact hA) h fun u e=>by rw[e];exact hk
theorem aG:bA σ [] []:=.nil
theorem ar {v:V} {l l':List V} (h:Go.Ev.Clean v) (hl:bA σ l l'):bA σ (v::l) (v::l'):=.cons (.clean h) hl
theorem bg:∀s∈([]:List SV),s.clean:=fun _ h=>by cases h
theorem ax {s:SV} {l:List SV} (h:s.clean) (hl:∀u∈l,u.clean):∀u∈s::l,u.clean:=fun u hu=>by
 rcases List.mem_cons.1 hu with rfl | hu
 ·exact h
 ·exact hl u hu
theorem ay {kd:IntKind} {n:Int} {l:List SV} (hl:∀u∈l,u.clean):∀u∈SV.val (.int kd n)::l,u.clean:=ax (Go.Ev.Clean.int _ _) hl
theorem gv {s:List UInt8} {l:List SV} (hl:∀u∈l,u.clean):∀u∈SV.val (.str s)::l,u.clean:=ax (Go.Ev.Clean.str _) hl
end
theorem aq {c:Prop} [Decidable c] {A B:Prop} (h1:c→A) (h2:¬c→B):aa (decide c) A B:=aa.mk (fun e=>h1 (of_decide_eq_true e)) fun e=>h2 (of_decide_eq_false e)
def bF:List SV→Nat
 | []=>0
 | [.val (.int _ i)]=>i.toNat
 | _::r=>bF r
theorem cA (n:Nat):((n:Nat):Int).toNat=n:=rfl
theorem iJ (s:List UInt8) (i:Nat):0≤av s i∧av s i<256:=by
 unfold av
 cases nth s i with
 | none=>exact⟨by decide,by decide⟩
 | some c=>have:=c.toNat_lt;exact⟨by simp,by show(c.toNat:Int)<256;omega⟩
theorem aC.aE [Env] (e:aC):Go.Ev.Clean (aC.enc e):=Go.Ev.Clean.agg e.clean
theorem ak.aE [Env] (e:ak):Go.Ev.Clean (ak.enc e):=Go.Ev.Clean.agg e.clean
theorem ae.aE [Env] (e:ae):Go.Ev.Clean (ae.enc e):=Go.Ev.Clean.agg e.clean
end Go.Proofs.YtbajncpfmemdgaaGreatDoor
end
section
namespace Go.Proofs.YtbajncpfmemdgaaGreatDoor
open Go Go.Ev Go.IntWalk
theorem F273:bc Tryz.prog 273 Tryz.f273:=.of (by kernel_rfl) (by kernel_rfl)
theorem F260:bc Tryz.prog 260 Tryz.f260:=.of (by kernel_rfl) (by kernel_rfl)
theorem F235:bc Tryz.prog 235 Tryz.f235:=.of (by kernel_rfl) (by kernel_rfl)
theorem F195:bc Tryz.prog 195 Tryz.f195:=.of (by kernel_rfl) (by kernel_rfl)
theorem F274:bc Tryz.prog 274 Tryz.f274:=.of (by kernel_rfl) (by kernel_rfl)
theorem F275:bc Tryz.prog 275 Tryz.f275:=.of (by kernel_rfl) (by kernel_rfl)
theorem F263:bc Tryz.prog 263 Tryz.f263:=.of (by kernel_rfl) (by kernel_rfl)
theorem F238:bc Tryz.prog 238 Tryz.f238:=.of (by kernel_rfl) (by kernel_rfl)
theorem F203:bc Tryz.prog 203 Tryz.f203:=.of (by kernel_rfl) (by kernel_rfl)
section
variable [Env] {vs:List V} {σ:St} {k:ai}
theorem NI:∀ {f:FuncId} {vs:List V} {σ:St} {k:ai},Tb f vs σ k→ag Tryz.prog f vs k σ:=fun h=>h.elim
def XH (c:Int) (v:V):Prop:=∃r:Int,v=.tuple [.int .i64 (eK c),.int .i64 r,.int .u8 (ke c),.int .u8 (kf c)]
omit [Env] in
theorem af0 {c a b d:Int} (r:Int) (h1:eK c=a) (h2:ke c=b) (h3:kf c=d):XH c (.tuple [.int .i64 a,.int .i64 r,.int .u8 b,.int .u8 d]):=⟨r,by rw[h1,h2,h3]⟩
theorem Up (h:Pz vs σ k):ag Tryz.prog 273 vs k σ:=by
 unfold Pz at h
 split at h
 ·rename_i c
  obtain⟨hc,h⟩:=h
  refine ag.aU (A:=XH c) (ar (Go.Ev.Clean.int _ _) aG) (fun v hv=>by obtain⟨r,rfl⟩:=hv;exact .tuple (bD (.int _ _) (bD (.int _ _) (bD (.int _ _) (bD (.int _ _) gb)))))
   (F273.flat (live:=Hc) (call:=Tb) (n₀:=0) (σ:=Go.Ev.start) (fun h=>NI h) rfl (by kernel_rfl) ?_) fun v hv=>by obtain⟨r,rfl⟩:=hv;exact h r
  rw[afl]
  refine⟨rfl,aq (fun h1=>?_) fun h1=>⟨rfl,aq (fun h2=>?_) fun h2=>⟨rfl,aq (fun h3=>?_) fun h3=>⟨rfl,aq (fun h4=>?_) fun h4=>⟨rfl,aq (fun h5=>?_) fun h5=>⟨rfl,aq (fun h6=>?_) fun h6=>⟨rfl,aq (fun h7=>?_) fun h7=>⟨rfl,aq (fun h8=>?_) fun h8=>⟨rfl,aq (fun h9=>?_) fun h9=>?_⟩⟩⟩⟩⟩⟩⟩⟩⟩
  all_goals (refine af0 _ ?_ ?_ ?_)
  all_goals first
   | (unfold eK;(repeat' split)<;>omega)
   | (unfold ke;(repeat' split)<;>omega)
   | (unfold kf;(repeat' split)<;>omega)
 ·exact h.elim
theorem NJ:∀ {f:FuncId} {vs:List V} {σ:St} {k:ai},NB f vs σ k→ag Tryz.prog f vs k σ:=fun h=>aD Up NI h
def qS (s:List UInt8) (v:V):Prop:=(cD s≠0∧∃r:Int,v=.tuple [.int .i64 r,.int .i64 (cD s),.int .i64 0])∨(cD s=0∧∃e:Int,e≠0∧v=.tuple [.int .i64 0,.int .i64 0,.int .i64 e])
theorem qS.ga (s:List UInt8):∀v,qS s v→dK v:=fun v hv=>by
 rcases hv with ⟨_,r,rfl⟩ | ⟨_,e,_,rfl⟩<;>exact .tuple (bD (.int _ _) (bD (.int _ _) (bD (.int _ _) gb)))
omit [Env] in
theorem qS.bad {s:List UInt8} {e:Int} (h:cD s=0) (he:e≠0):qS s (.tuple [.int .i64 0,.int .i64 0,.int .i64 e]):=.inr ⟨h,e,he,rfl⟩
omit [Env] in
theorem qS.Au {s:List UInt8} {r w:Int} (h:cD s=w) (hw:w≠0):qS s (.tuple [.int .i64 r,.int .i64 w,.int .i64 0]):=.inl ⟨by rw[h];exact hw,r,by rw[h]⟩
omit [Env] in
theorem qu (c:Int):0≤eK c∧eK c≤4:=by unfold eK;(repeat' split)<;>omega
omit [Env] in
theorem kg {s:List UInt8} (h:s.length≠0):cD s=if jU s (ke (av s 0)) (kf (av s 0)) ((eK (av s 0)).toNat-1) 1=true then eK (av s 0) else 0:=by unfold cD;rw[if_neg h]
omit [Env] in
theorem sX (s:List UInt8) (lo hi:Int) (m i:Nat):jU s lo hi (m+1) i=(decide (i<s.length∧lo≤av s i∧av s i≤hi)&&jU s 128 191 m (i+1)):=rfl
def af1 (s:List UInt8):Nat→List SV→Prop
 | 0,ss=>∃(r lo hi:Int) (i:Nat),s.length≠0∧1≤i∧(i:Int)≤eK (av s 0)∧jU s (ke (av s 0)) (kf (av s 0)) ((eK (av s 0)).toNat-1) 1=jU s lo hi ((eK (av s 0)).toNat-i) i∧
   ss=[.val (.str s),.val (.int .i64 (eK (av s 0))),.val (.int .i64 r),.val (.int .u8 lo),.val (.int .u8 hi),.val (.int .i64 0),.val (.int .i64 i)]
 | _,_=>False
theorem Uq (h:PA vs σ k):ag Tryz.prog 260 vs k σ:=by
 unfold PA at h
 split at h
 ·rename_i s
  refine ag.aU (A:=qS s) (ar (Go.Ev.Clean.str _) aG) (qS.ga s)
   (F260.bV (live:=Af) (call:=NB) (n₀:=0) (σ:=Go.Ev.start) (fun h=>NJ h) rfl 1 (by kernel_rfl) Nat.lt_wfRel.wf (fun _ ss=>5-bF ss) (af1 s) ?_ ?_ ?_) fun v hv=>by
    rcases hv with ⟨h0,r,rfl⟩ | ⟨h0,e,he,rfl⟩
    ·exact h.1 h0 r
    ·exact h.2 h0 e he
  ·intro k ss hI
   cases k with
   | zero=>obtain⟨r,lo,hi,i,_,_,_,_,rfl⟩:=hI;exact gv (ay (ay (ay (ay (ay (ay bg))))))
   | succ k=>exact hI.elim
  ·rw[afm]
   have hb:=iJ s 0
   have hw:=qu (av s 0)
   refine aq (fun h0=>.bad (by rw[h0];rfl) (by decide)) fun h0=>?_
   have hl:s.length≠0:=fun e=>h0 (List.eq_nil_of_length_eq_zero e)
   refine⟨⟨by decide,by rw[aO];omega⟩,hb,fun r=>⟨rfl,aq (fun h1=>.bad ?_ (by decide)) fun h1=>?_⟩⟩
   ·rw[kg hl]
    have h1:eK (av s 0)=0:=h1
    rw[h1];split<;>rfl
   ·have h1:eK (av s 0)≠0:=h1
    exact⟨r,_,_,1,hl,by omega,by omega,rfl,rfl⟩
  ·intro k hk ss hI
   obtain rfl:k=0:=by omega
   obtain⟨r,lo,hi,i,hl,h1,h2,hc,rfl⟩:=hI
   have hw:=qu (av s 0)
   rw[afn]
   refine⟨rfl,aq (fun h3=>?_) fun h3=>?_⟩
   ·obtain⟨m,hm⟩:∃m,(eK (av s 0)).toNat-i=m+1:=⟨(eK (av s 0)).toNat-i-1,by omega⟩
    rw[hm,sX] at hc
    have bad:¬(i<s.length∧lo≤av s i∧av s i≤hi)→cD s=0:=fun hn=>by
     rw[kg hl,hc,decide_eq_false hn,Bool.false_and,if_neg (by simp)]
    refine⟨rfl,aq (fun h4=>⟨rfl,.bad (bad fun hh=>?_) (by decide)⟩) fun h4=>?_⟩
    ·rw[aO] at h4;omega
    ·rw[aO] at h4
     have eQ:(0≤(i:Int)∧(i:Int)<((len s:Nat):Int)):=⟨by omega,by rw[aO];omega⟩
     refine⟨eQ,rfl,aq (fun h5=>⟨rfl,.bad (bad fun hh=>?_) (by decide)⟩) fun h5=>⟨eQ,rfl,aq (fun h6=>⟨rfl,.bad (bad fun hh=>?_) (by decide)⟩) fun h6=>⟨by decide,eQ,?_⟩⟩⟩
     ·have h5:av s i<lo:=h5
      omega
     ·have h6:av s i>hi:=h6
      omega
     ·have h5:¬av s i<lo:=h5
      have h6:¬av s i>hi:=h6
      have gh:jU s (ke (av s 0)) (kf (av s 0)) ((eK (av s 0)).toNat-1) 1=jU s 128 191 ((eK (av s 0)).toNat-(i+1)) (i+1):=by
       rw[hc,decide_eq_true ⟨by omega,by omega,by omega⟩,Bool.true_and,show(eK (av s 0)).toNat-(i+1)=m by omega]
      rw[i64_in ((i:Int)+1) (by omega)]
      refine⟨⟨_,128,191,i+1,hl,by omega,by omega,gh,rfl⟩,?_⟩
      show 5-((i:Int)+1).toNat<5-(i:Int).toNat
      omega
   ·refine⟨rfl,.Au ?_ (by omega)⟩
    rw[kg hl,hc,show(eK (av s 0)).toNat-i=0 by omega]
    rfl
 ·exact h.elim
theorem NL:∀ {f:FuncId} {vs:List V} {σ:St} {k:ai},NC f vs σ k→ag Tryz.prog f vs k σ:=fun h=>aD Uq NJ h
omit [Env] in
theorem sY (s:List UInt8):0≤cD s∧cD s≤s.length∧cD s≤4:=by
 have hw:=qu (av s 0)
 by_cases h:s.length=0
 ·unfold cD;rw[if_pos h];omega
 ·rw[kg h]
  split
  ·rename_i hc
   have key:∀(m i:Nat) (lo hi:Int),jU s lo hi m i=true→m=0∨i+m≤s.length:=by
    intro m
    induction m with
    | zero=>intro i lo hi _;exact .inl rfl
    | succ m ih=>
     intro i lo hi hh
     rw[sX,Bool.and_eq_true] at hh
     have h1:=of_decide_eq_true hh.1
     rcases ih _ _ _ hh.2 with h2 | h2
     ·right;omega
     ·right;omega
   rcases key _ _ _ _ hc with h1 | h1<;>omega
  ·omega
omit [Env] in
theorem BX {n:Nat} {s:List UInt8} (h:s.length≤n) (h0:s.length≠0) (hn:cD s=0):dR n s=false:=by
 cases n with
 | zero=>omega
 | succ n=>show(if _ then _ else if _ then _ else _)=_;rw[if_neg h0,if_pos hn]
omit [Env] in
theorem NM:∀ {n m:Nat} {s:List UInt8},s.length≤n→s.length≤m→dR n s=dR m s:=by
 intro n
 induction n with
 | zero=>
  intro m s h1 h2
  have h0:s.length=0:=by omega
  cases m with
  | zero=>rfl
  | succ m=>show decide _=if _ then _ else _;rw[if_pos h0,decide_eq_true h0]
 | succ n ih=>
  intro m s h1 h2
  by_cases h0:s.length=0
  ·cases m with
   | zero=>show(if _ then _ else _)=decide _;rw[if_pos h0,decide_eq_true h0]
   | succ m=>show(if _ then _ else _)=if _ then _ else _;rw[if_pos h0,if_pos h0]
  ·cases m with
   | zero=>omega
   | succ m=>
    show(if _ then _ else if _ then _ else _)=if _ then _ else if _ then _ else _
    rw[if_neg h0,if_neg h0]
    by_cases hn:cD s=0
    ·rw[if_pos hn,if_pos hn]
    ·rw[if_neg hn,if_neg hn]
     have:=sY s
     exact ih (by rw[List.length_drop];omega) (by rw[List.length_drop];omega)
omit [Env] in
theorem BZ {s:List UInt8} (h0:s.length≠0) (hn:cD s≠0):dR s.length s=dR (s.drop (cD s).toNat).length (s.drop (cD s).toNat):=by
 have:=sY s
 obtain⟨m,hm⟩:∃m,s.length=m+1:=⟨s.length-1,by omega⟩
 have e:dR s.length s=dR m (s.drop (cD s).toNat):=by
  rw[hm]
  show(if _ then _ else if _ then _ else _)=_
  rw[if_neg h0,if_neg hn]
 rw[e]
 exact NM (by rw[List.length_drop];omega) (Nat.le_refl _)
def XI (s:List UInt8) (v:V):Prop:=∃c:Int,(0≤c↔dR s.length s=true)∧v=.int .i64 c
def af2 (s:List UInt8):Nat→List SV→Prop
 | 0,ss=>∃(t:List UInt8) (i:Int),0≤i∧i+t.length≤64∧dR s.length s=dR t.length t∧ss=[.val (.str t),.val (.int .i64 i)]
 | _,_=>False
def XJ:List SV→Nat
 | .val (.str s)::_=>s.length
 | _=>0
theorem Ur (h:PB vs σ k):ag Tryz.prog 235 vs k σ:=by
 unfold PB at h
 split at h
 ·rename_i s
  obtain⟨hs,h⟩:=h
  refine ag.aU (A:=XI s) (ar (Go.Ev.Clean.str _) aG) (fun v hv=>by obtain⟨c,_,rfl⟩:=hv;exact .int _ _)
   (F235.bV (live:=Ag) (call:=NC) (n₀:=0) (σ:=Go.Ev.start) (fun h=>NL h) rfl 1 (by kernel_rfl) Nat.lt_wfRel.wf (fun _ ss=>XJ ss) (af2 s) ?_ ?_ ?_) fun v hv=>by obtain⟨c,hc,rfl⟩:=hv;exact h c hc
  ·intro k ss hI
   cases k with
   | zero=>obtain⟨t,i,_,_,_,rfl⟩:=hI;exact gv (ay bg)
   | succ k=>exact hI.elim
  ·rw[afo]
   exact⟨s,0,by omega,by omega,rfl,rfl⟩
  ·intro k hk ss hI
   obtain rfl:k=0:=by omega
   obtain⟨t,i,h0,h1,he,rfl⟩:=hI
   rw[afp]
   refine aq (fun ht=>?_) fun ht=>?_
   ·have eZ:t.length≠0:=fun e=>ht (List.eq_nil_of_length_eq_zero e)
    have hn:=sY t
    refine⟨fun bN r=>⟨rfl,⟨hn.1,by rw[aO];omega,by omega⟩,?_⟩,fun hz e bN=>⟨rfl,aq (fun _=>?_) fun hh=>absurd bN hh⟩⟩
    ·have hd:cR (cD t).toNat (cV t ((len t:Nat):Int).toNat)=t.drop (cD t).toNat:=by
      rw[ea,eG,aO,Int.toNat_natCast,List.take_length]
     rw[hd,i64_in (i+1) (by omega)]
     refine⟨⟨_,i+1,by omega,?_,?_,rfl⟩,?_⟩
     ·rw[List.length_drop];omega
     ·rw[he];exact BZ eZ bN
     ·show(t.drop (cD t).toNat).length<t.length
      rw[List.length_drop];omega
    ·refine⟨-1,⟨fun h=>by omega,fun h=>?_⟩,rfl⟩
     rw[he,BX (Nat.le_refl _) eZ hz] at h;cases h
   ·have ht:t=[]:=Decidable.not_not.1 ht
    subst ht
    exact⟨i,⟨fun _=>by rw[he];rfl,fun _=>h0⟩,rfl⟩
 ·exact h.elim
theorem NN:∀ {f:FuncId} {vs:List V} {σ:St} {k:ai},Tc f vs σ k→ag Tryz.prog f vs k σ:=fun h=>aD Ur NL h
theorem Us (h:PC vs σ k):ag Tryz.prog 195 vs k σ:=by
 unfold PC at h
 split at h
 ·rename_i s
  obtain⟨hs,h⟩:=h
  refine ag.cb (ar (Go.Ev.Clean.str _) aG) (.bool _) (F195.flat (live:=Hd) (call:=Tc) (n₀:=0) (σ:=Go.Ev.start) (fun h=>NN h) rfl (by kernel_rfl) ?_) h
  rw[afq]
  refine⟨hs,fun c hc=>⟨rfl,aq (fun h1=>?_) fun h1=>?_⟩⟩
  ·rw[hc.1 h1]
  ·have:dR s.length s=false:=by
    cases hb:dR s.length s with
    | false=>rfl
    | true=>exact absurd (hc.2 hb) h1
   rw[this]
 ·exact h.elim
theorem NO:∀ {f:FuncId} {vs:List V} {σ:St} {k:ai},Td f vs σ k→ag Tryz.prog f vs k σ:=fun h=>aD Us NN h
end
end Go.Proofs.YtbajncpfmemdgaaGreatDoor
end
section
namespace Go.Proofs.YtbajncpfmemdgaaGreatDoor
open Go Go.Ev Go.IntWalk
theorem vj (c:Int) (hc:0≤c∧c<256):(cQ c=1∧c<128∧ek c=c)∨(cQ c=2∧192≤c∧c<224∧ek c=c-192)∨(cQ c=3∧224≤c∧c<240∧ek c=c-224)∨
  (cQ c=4∧240≤c∧c<248∧ek c=c-240)∨(cQ c=0∧eK c=0):=by
 unfold cQ ek eK
 (repeat' split)<;>omega
theorem fC (x y w:Int) {lo hi:Int} (NP:(if w=2 then(128:Int) else if w=3 then 2048 else if w=4 then 65536 else 0)=lo) (oA:(if w=2 then(2047:Int) else if w=3 then 65535 else if w=4 then 1114111 else 127)=hi):
  e7 x y w=true↔(lo≤y∧x≤hi∧x≤y∧lo≤hi)∧((lo<55296∧x<55296)∨(hi>57343∧y>57343)):=by
 unfold e7
 rw[NP,oA,decide_eq_true_iff]
 omega
def Rg (c lw i r q:Int):Prop:=
 (i=1∧r=ek c∧((lw=1∧q=1)∨(lw=2∧q=64)∨(lw=3∧q=4096)∨(lw=4∧q=262144)))∨
 (i=2∧((lw=2∧q=1)∨(lw=3∧q=64∧32≤r∧r≤1023∧(r<864∨896≤r))∨(lw=4∧q=4096∧16≤r∧r≤271)))∨
 (i=3∧((lw=3∧q=1)∨(lw=4∧q=64∧1024≤r∧r≤17407)))∨(i=4∧lw=4∧q=1)
theorem Ut {c lw i r q b:Int} (hc:0≤c∧c<256) (hu:eK c=lw) (hl:cQ c=lw) (h:Rg c lw i r q) (hi:i<lw) (hb:128≤b∧b≤191):
  ∃q',q.tdiv 64=q'∧(0≤r∧r≤20000)∧(1≤q'∧q'≤262144)∧(0≤(r*64+b-128)*q'∧(r*64+b-128)*q'≤1000000000)∧
   (e7 ((r*64+b-128)*q') ((r*64+b-128)*q'+q'-1) lw=true↔(i=1→ke c≤b∧b≤kf c))∧
   (e7 ((r*64+b-128)*q') ((r*64+b-128)*q'+q'-1) lw=true→Rg c lw (i+1) (r*64+b-128) q'):=by
 have dI:=vj c hc
 have e0:ke c=if c<194∨c>244 then 0 else if c=224 then 160 else if c=240 then 144 else 128:=rfl
 have e1:kf c=if c<194∨c>244 then 0 else if c=237 then 159 else if c=244 then 143 else 191:=rfl
 have e2:eK c=if c<128 then 1 else if c<194∨c>244 then 0 else if c<224 then 2 else if c<240 then 3 else 4:=rfl
 rcases h with ⟨rfl,rfl,h | h | h | h⟩ | ⟨rfl,h | h | h⟩ | ⟨rfl,h | h⟩ | ⟨rfl,h⟩
 ·omega
 ·obtain⟨rfl,rfl⟩:=h
  refine⟨1,rfl,by omega,by omega,by omega,?_,fun _=>.inr (.inl ⟨rfl,.inl ⟨rfl,rfl⟩⟩)⟩
  rw[fC _ _ _ (lo:=128) (hi:=2047) rfl rfl]
  constructor
  ·intro _ _;omega
  ·intro h;have:=h rfl;omega
 ·obtain⟨rfl,rfl⟩:=h
  refine⟨64,rfl,by omega,by omega,by omega,?_,fun hh=>?_⟩
  ·rw[fC _ _ _ (lo:=2048) (hi:=65535) rfl rfl]
   constructor
   ·intro h1 _;omega
   ·intro h;have:=h rfl;omega
  ·rw[fC _ _ _ (lo:=2048) (hi:=65535) rfl rfl] at hh
   exact .inr (.inl ⟨rfl,.inr (.inl ⟨rfl,rfl,by omega,by omega,by omega⟩)⟩)
 ·obtain⟨rfl,rfl⟩:=h
  refine⟨4096,rfl,by omega,by omega,by omega,?_,fun hh=>?_⟩
  ·rw[fC _ _ _ (lo:=65536) (hi:=1114111) rfl rfl]
   constructor
   ·intro h1 _;omega
   ·intro h;have:=h rfl;omega
  ·rw[fC _ _ _ (lo:=65536) (hi:=1114111) rfl rfl] at hh
   exact .inr (.inl ⟨rfl,.inr (.inr ⟨rfl,rfl,by omega,by omega⟩)⟩)
 ·omega
 ·obtain⟨rfl,rfl,h1,h2,h3⟩:=h
  refine⟨1,rfl,by omega,by omega,by omega,?_,fun _=>.inr (.inr (.inl ⟨rfl,.inl ⟨rfl,rfl⟩⟩))⟩
  rw[fC _ _ _ (lo:=2048) (hi:=65535) rfl rfl]
  exact⟨fun _ h=>by omega,fun _=>by omega⟩
 ·obtain⟨rfl,rfl,h1,h2⟩:=h
  refine⟨64,rfl,by omega,by omega,by omega,?_,fun _=>.inr (.inr (.inl ⟨rfl,.inr ⟨rfl,rfl,by omega,by omega⟩⟩))⟩
  rw[fC _ _ _ (lo:=65536) (hi:=1114111) rfl rfl]
  exact⟨fun _ h=>by omega,fun _=>by omega⟩
 ·omega
 ·obtain⟨rfl,rfl,h1,h2⟩:=h
  refine⟨1,rfl,by omega,by omega,by omega,?_,fun _=>.inr (.inr (.inr ⟨rfl,rfl,rfl⟩))⟩
  rw[fC _ _ _ (lo:=65536) (hi:=1114111) rfl rfl]
  exact⟨fun _ h=>by omega,fun _=>by omega⟩
 ·omega
theorem Qa {c q:Int} (hc:0≤c∧c<256) (h0:cQ c≠0) (hq:(cQ c=1∧q=1)∨(cQ c=2∧q=64)∨(cQ c=3∧q=4096)∨(cQ c=4∧q=262144)):
  (0≤ek c*q∧ek c*q≤100000000∧1≤q∧q≤262144)∧(e7 (ek c*q) (ek c*q+q-1) (cQ c)=true→eK c=cQ c∧Rg c (cQ c) 1 (ek c) q)∧(e7 (ek c*q) (ek c*q+q-1) (cQ c)=false→eK c=0):=by
 have dI:=vj c hc
 have e2:eK c=if c<128 then 1 else if c<194∨c>244 then 0 else if c<224 then 2 else if c<240 then 3 else 4:=rfl
 rcases hq with ⟨h,rfl⟩ | ⟨h,rfl⟩ | ⟨h,rfl⟩ | ⟨h,rfl⟩
 ·have key:=fC (ek c*1) (ek c*1+1-1) (cQ c) (lo:=0) (hi:=127) (by rw[h];rfl) (by rw[h];rfl)
  refine⟨by omega,fun _=>⟨by omega,.inl ⟨rfl,rfl,.inl ⟨h,rfl⟩⟩⟩,fun hf=>?_⟩
  rw[Bool.eq_false_iff,ne_eq,key] at hf;omega
 ·have key:=fC (ek c*64) (ek c*64+64-1) (cQ c) (lo:=128) (hi:=2047) (by rw[h];rfl) (by rw[h];rfl)
  refine⟨by omega,fun hh=>⟨?_,.inl ⟨rfl,rfl,.inr (.inl ⟨h,rfl⟩)⟩⟩,fun hf=>?_⟩
  ·rw[key] at hh;omega
  ·rw[Bool.eq_false_iff,ne_eq,key] at hf;omega
 ·have key:=fC (ek c*4096) (ek c*4096+4096-1) (cQ c) (lo:=2048) (hi:=65535) (by rw[h];rfl) (by rw[h];rfl)
  refine⟨by omega,fun hh=>⟨?_,.inl ⟨rfl,rfl,.inr (.inr (.inl ⟨h,rfl⟩))⟩⟩,fun hf=>?_⟩
  ·omega
  ·rw[Bool.eq_false_iff,ne_eq,key] at hf;omega
 ·have key:=fC (ek c*262144) (ek c*262144+262144-1) (cQ c) (lo:=65536) (hi:=1114111) (by rw[h];rfl) (by rw[h];rfl)
  refine⟨by omega,fun hh=>⟨?_,.inl ⟨rfl,rfl,.inr (.inr (.inr ⟨h,rfl⟩))⟩⟩,fun hf=>?_⟩
  ·rw[key] at hh;omega
  ·rw[Bool.eq_false_iff,ne_eq,key] at hf;omega
section
variable [Env] {vs:List V} {σ:St} {k:ai}
theorem Uu (h:PD vs σ k):ag Tryz.prog 274 vs k σ:=by
 unfold PD at h
 split at h
 ·rename_i c
  refine ag.cb (v:=.tuple [.int .i64 (cQ c),.int .i64 (ek c)]) (ar (Go.Ev.Clean.int _ _) aG) (.tuple (bD (.int _ _) (bD (.int _ _) gb))) (F274.flat (live:=He) (call:=Td) (n₀:=0) (σ:=Go.Ev.start) (fun h=>NO h) rfl (by kernel_rfl) ?_) h
  have fin:∀a b:Int,cQ c=a→ek c=b→(V.tuple [.int .i64 a,.int .i64 b]=.tuple [.int .i64 (cQ c),.int .i64 (ek c)]):=fun a b h1 h2=>by rw[h1,h2]
  rw[afr];unfold ND
  unfold cQ ek at fin⊢
  refine⟨rfl,aq (fun h1=>?_) fun h1=>⟨rfl,aq (fun h2=>⟨rfl,aq (fun h3=>?_) fun h3=>⟨rfl,aq (fun h4=>⟨rfl,aq (fun h5=>?_) fun h5=>⟨rfl,aq (fun h6=>⟨rfl,aq (fun h7=>?_) fun h7=>?_⟩) fun h6=>?_⟩⟩) fun h4=>⟨rfl,aq (fun h6=>⟨rfl,aq (fun h7=>?_) fun h7=>?_⟩) fun h6=>?_⟩⟩⟩)
   fun h2=>⟨rfl,aq (fun h4=>⟨rfl,aq (fun h5=>?_) fun h5=>⟨rfl,aq (fun h6=>⟨rfl,aq (fun h7=>?_) fun h7=>?_⟩) fun h6=>?_⟩⟩) fun h4=>⟨rfl,aq (fun h6=>⟨rfl,aq (fun h7=>?_) fun h7=>?_⟩) fun h6=>?_⟩⟩⟩⟩
  all_goals (first | rw[i64_in _ (by omega)] | skip)
  all_goals (refine fin _ _ ?_ ?_<;>((repeat' split)<;>omega))
 ·exact h.elim
theorem NQ:∀ {f:FuncId} {vs:List V} {σ:St} {k:ai},Te f vs σ k→ag Tryz.prog f vs k σ:=fun h=>aD Uu NO h
theorem Uv (h:PE vs σ k):ag Tryz.prog 275 vs k σ:=by
 unfold PE at h
 split at h
 ·rename_i x y w
  refine ag.cb (v:=.bool (e7 x y w)) (ar (Go.Ev.Clean.int _ _) (ar (Go.Ev.Clean.int _ _) (ar (Go.Ev.Clean.int _ _) aG))) (.bool _) (F275.flat (live:=Hf) (call:=Te) (n₀:=0) (σ:=Go.Ev.start) (fun h=>NQ h) rfl (by kernel_rfl) ?_) h
  have T:∀ {lo hi:Int},(if w=2 then(128:Int) else if w=3 then 2048 else if w=4 then 65536 else 0)=lo→(if w=2 then(2047:Int) else if w=3 then 65535 else if w=4 then 1114111 else 127)=hi→
    ((IntKind.i64=.i64)∧aa (decide ((if lo>x then lo else x)>(if hi<y then hi else y))) (V.bool false=.bool (e7 x y w)) ((IntKind.i64=.i64)∧aa (decide ((if lo>x then lo else x)<(55296:Int))) (V.bool true=.bool (e7 x y w)) ((IntKind.i64=.i64)∧aa (decide ((if hi<y then hi else y)>(57343:Int))) (V.bool true=.bool (e7 x y w)) (V.bool false=.bool (e7 x y w))))):=by
   intro lo hi h1 h2
   have e:e7 x y w=decide (¬((if lo>x then lo else x)>(if hi<y then hi else y))∧((if lo>x then lo else x)<(55296:Int)∨(if hi<y then hi else y)>(57343:Int))):=by
    unfold e7;rw[h1,h2]
   rw[e]
   refine⟨rfl,aq (fun h=>?_) fun h=>⟨rfl,aq (fun h'=>?_) fun h'=>⟨rfl,aq (fun SG=>?_) fun SG=>?_⟩⟩⟩
   ·rw[decide_eq_false fun hh=>hh.1 h]
   ·rw[decide_eq_true ⟨h,.inl h'⟩]
   ·rw[decide_eq_true ⟨h,.inr SG⟩]
   ·rw[decide_eq_false fun hh=>by rcases hh.2 with h1 | h1<;>contradiction]
  rw[Ef];unfold y6
  refine⟨rfl,aq (fun h1=>⟨rfl,aq (fun h2=>?_) fun h2=>⟨rfl,aq (fun h3=>?_) fun h3=>?_⟩⟩) fun h1=>⟨rfl,aq (fun h2=>⟨rfl,aq (fun h3=>?_) fun h3=>?_⟩) fun h2=>⟨rfl,aq (fun h3=>?_) fun h3=>?_⟩⟩⟩
  ·omega
  ·omega
  ·exact T (by rw[if_pos h1]) (by rw[if_pos h1])
  ·omega
  ·exact T (by rw[if_neg h1,if_pos h2]) (by rw[if_neg h1,if_pos h2])
  ·exact T (by rw[if_neg h1,if_neg h2,if_pos h3]) (by rw[if_neg h1,if_neg h2,if_pos h3])
  ·exact T (by rw[if_neg h1,if_neg h2,if_neg h3]) (by rw[if_neg h1,if_neg h2,if_neg h3])
 ·exact h.elim
theorem NR:∀ {f:FuncId} {vs:List V} {σ:St} {k:ai},Hg f vs σ k→ag Tryz.prog f vs k σ:=fun h=>aD Uv NQ h
end
end Go.Proofs.YtbajncpfmemdgaaGreatDoor
end
