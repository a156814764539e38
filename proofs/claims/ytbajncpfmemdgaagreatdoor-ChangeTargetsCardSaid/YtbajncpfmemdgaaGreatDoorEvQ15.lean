/- Proved: parts of the way: BEq2, BEq3, BP0, BP1, BP2. -/
import Derived.Test.YtbajncpfmemdgaaGreatDoorEvQ14
import Derived.IntWalk
section
namespace Go.Proofs.YtbajncpfmemdgaaGreatDoor
open Go Go.Ev
def H0:Nat→List Nat:=(fun _=>[])
theorem afQ [Env] (A:Nat→List SV→Prop) (Q:V→Prop) (x:Int):WE Tryz.prog 194 Tryz.f194 T0 0 H0 A (fun v _=>Q v) [.int .u64 x] Go.Ev.start=
  (aa (FloatKind.f64.format.order x.toNat x.toNat != some .eq) (Q (.int .u64 (9221120237041090560:Int))) (Q (.int .u64 x))):=by kernel_rfl
def Qs [Env] (vs:List V) (σ:St) (k:ah):Prop:=
 match vs with
 | [.int .u64 x]=>(0≤x∧x<18446744073709551616)∧k (.int .u64 (fQ x)) σ
 | _=>False
def LA [Env]:=kS 194 Qs T0
def H2:Nat→List Nat:=(fun _=>[])
theorem afR [Env] (A:Nat→List SV→Prop) (Q:V→Prop) (x:Int):WE Tryz.prog 261 Tryz.f261 LA 0 H2 A (fun v _=>Q v) [.int .u64 x] Go.Ev.start=
  ((0≤(52:Int)∧Q (.int .i64 (IntKind.i64.wrap (IntKind.u64.wrap (BitVec.ofInt IntKind.u64.bits (x.fdiv (2^min (52:Int).toNat IntKind.u64.bits))&&& BitVec.ofInt IntKind.u64.bits (2047:Int)).toNat))))):=by kernel_rfl
def Qt [Env] (vs:List V) (σ:St) (k:ah):Prop:=
 match vs with
 | [.int .u64 x]=>(0≤x∧x<18446744073709551616)∧k (.int .i64 (eg x)) σ
 | _=>False
def LB [Env]:=kS 261 Qt LA
def H3:Nat→List Nat:=(fun _=>[])
theorem afS [Env] (A:Nat→List SV→Prop) (Q:V→Prop) (x:Int):WE Tryz.prog 262 Tryz.f262 LB 0 H3 A (fun v _=>Q v) [.int .u64 x] Go.Ev.start=
  (Q (.int .u64 (IntKind.u64.wrap (BitVec.ofInt IntKind.u64.bits x&&& BitVec.ofInt IntKind.u64.bits (4503599627370495:Int)).toNat))):=by kernel_rfl
def Qu [Env] (vs:List V) (σ:St) (k:ah):Prop:=
 match vs with
 | [.int .u64 x]=>(0≤x∧x<18446744073709551616)∧k (.int .u64 (gu x)) σ
 | _=>False
def LC [Env]:=kS 262 Qu LB
def H4:Nat→List Nat:=(fun _=>[])
abbrev Yo [Env] (A:Nat→List SV→Prop) (Q:V→Prop) (x:Int):Prop:=
 ((0≤x∧x<18446744073709551616)∧((.i64:IntKind)=.i64∧aa (decide ((eg x)=(2047:Int))) (Q (.int .i64 (2:Int))) (((0≤x∧x<18446744073709551616)∧((.i64:IntKind)=.i64∧aa (decide ((eg x)=(0:Int))) (((0≤x∧x<18446744073709551616)∧((.u64:IntKind)=.u64∧aa (decide ((gu x)=(0:Int))) (Q (.int .i64 (3:Int))) (((0≤x∧x<18446744073709551616)∧((.i64:IntKind)=.i64∧aa (decide ((eg x)=(0:Int))) (Q (.int .i64 (4:Int))) (Q (.int .i64 (5:Int))))))))) (((0≤x∧x<18446744073709551616)∧((.i64:IntKind)=.i64∧aa (decide ((eg x)=(0:Int))) (Q (.int .i64 (4:Int))) (Q (.int .i64 (5:Int)))))))))))
theorem afT [Env] (A:Nat→List SV→Prop) (Q:V→Prop) (x:Int):WE Tryz.prog 237 Tryz.f237 LC 0 H4 A (fun v _=>Q v) [.int .u64 x] Go.Ev.start=
  (((0≤x∧x<18446744073709551616)∧((.i64:IntKind)=.i64∧aa (decide ((eg x)=(2047:Int))) (((0≤x∧x<18446744073709551616)∧((.u64:IntKind)=.u64∧aa (decide ((gu x)≠(0:Int))) (Q (.int .i64 (1:Int))) ((Yo A Q x))))) ((Yo A Q x))))):=by kernel_rfl
def Qv [Env] (vs:List V) (σ:St) (k:ah):Prop:=
 match vs with
 | [.int .u64 x]=>(0≤x∧x<18446744073709551616)∧k (.int .i64 (lV x)) σ
 | _=>False
def LD [Env]:=kS 237 Qv LC
def H5:Nat→List Nat:=(fun _=>[])
theorem afU [Env] (A:Nat→List SV→Prop) (Q:V→Prop) (x:Int):WE Tryz.prog 202 Tryz.f202 LD 0 H5 A (fun v _=>Q v) [.int .u64 x] Go.Ev.start=
  (((0≤x∧x<18446744073709551616)∧((.i64:IntKind)=.i64∧aa (decide ((lV x)=(1:Int))) (Q (.int .u64 (9221120237041090560:Int))) (Q (.int .u64 x))))):=by kernel_rfl
def Qw [Env] (vs:List V) (σ:St) (k:ah):Prop:=
 match vs with
 | [.int .u64 x]=>(0≤x∧x<18446744073709551616)∧k (.int .u64 (fQ x)) σ
 | _=>False
def LF [Env]:=kS 202 Qw LD
def H6:Nat→List Nat:=(fun _=>[])
theorem afV [Env] (A:Nat→List SV→Prop) (Q:V→Prop) (e:az):WE Tryz.prog 193 Tryz.f193 LF 0 H6 A (fun v _=>Q v) [az.enc e] Go.Ev.start=
  (((.i64:IntKind)=.i64∧aa (decide (e.f0=(1:Int))) (Q (.agg [.int .i64 e.f0,.int .i64 e.f1,.int .u64 (0:Int),.str ([])])) (((.i64:IntKind)=.i64∧aa (decide (e.f0=(2:Int))) (Q (.agg [.int .i64 e.f0,.int .i64 e.f1,.int .u64 (0:Int),.str ([])])) (((.i64:IntKind)=.i64∧aa (decide (e.f0=(3:Int))) (Q (.agg [.int .i64 e.f0,.int .i64 (0:Int),.int .u64 e.f2,.str ([])])) (((.i64:IntKind)=.i64∧aa (decide (e.f0=(4:Int))) (Q (.agg [.int .i64 e.f0,.int .i64 (0:Int),.int .u64 (0:Int),.str e.f3])) (((.i64:IntKind)=.i64∧aa (decide (e.f0=(5:Int))) (Q (.agg [.int .i64 e.f0,.int .i64 (0:Int),.int .u64 (0:Int),.str e.f3])) (Q (.agg [.int .i64 e.f0,.int .i64 (0:Int),.int .u64 (0:Int),.str ([])])))))))))))):=by kernel_rfl
def Qx [Env] (vs:List V) (σ:St) (k:ah):Prop:=
 match vs with
 | [.agg [.int .i64 a,.int .i64 b,.int .u64 c,.str s]]=>k (az.enc (jI ⟨a,b,c,s⟩)) σ
 | _=>False
def LG [Env]:=kS 193 Qx LF
def H7:Nat→List Nat:=(fun _=>[])
abbrev T1 [Env] (A:Nat→List SV→Prop) (Q:V→Prop) (e:az):Prop:=
 ((0≤e.f2∧e.f2<18446744073709551616)∧aa (V.beq (.int .u64 e.f2) (.int .u64 e.f2)&&true) (((.u64:IntKind)=.u64∧aa (decide ((fQ e.f2)≠e.f2)) (Q (.int .i64 (4:Int))) (((.i64:IntKind)=.i64∧aa (decide ((((len e.f3:Nat):Int))>(64:Int))) (Q (.int .i64 (2:Int))) (((.i64:IntKind)=.i64∧aa (decide (e.f0=(5:Int))) ((e.f3.length≤64∧aa ((!(dZ e.f3.length e.f3))) (Q (.int .i64 (7:Int))) (Q (.int .i64 (0:Int))))) (Q (.int .i64 (0:Int))))))))) False)
theorem afW [Env] (A:Nat→List SV→Prop) (Q:V→Prop) (e:az):WE Tryz.prog 148 Tryz.f148 LG 0 H7 A (fun v _=>Q v) [az.enc e] Go.Ev.start=
  (((.i64:IntKind)=.i64∧aa (decide (e.f0<(0:Int))) (Q (.int .i64 (5:Int))) (((.i64:IntKind)=.i64∧aa (decide (e.f0≥(6:Int))) (Q (.int .i64 (5:Int))) (aa (V.beq (.agg [.int .i64 e.f0,.int .i64 e.f1,.int .u64 e.f2,.str e.f3]) (.agg [.int .i64 e.f0,.int .i64 e.f1,.int .u64 e.f2,.str e.f3])&&true) (((.i64:IntKind)=.i64∧aa (decide (((jI ⟨e.f0,e.f1,e.f2,e.f3⟩).f0)=e.f0)) (((.i64:IntKind)=.i64∧aa (decide (((jI ⟨e.f0,e.f1,e.f2,e.f3⟩).f1)=e.f1)) (((.u64:IntKind)=.u64∧aa (decide (((jI ⟨e.f0,e.f1,e.f2,e.f3⟩).f2)=e.f2)) (aa (decide (((jI ⟨e.f0,e.f1,e.f2,e.f3⟩).f3)=e.f3)) (((.i64:IntKind)=.i64∧aa (decide (e.f0=(1:Int))) (((.i64:IntKind)=.i64∧aa (decide (e.f1≠(0:Int))) (((.i64:IntKind)=.i64∧aa (decide (e.f1≠(1:Int))) (Q (.int .i64 (6:Int))) ((T1 A Q e)))) ((T1 A Q e)))) ((T1 A Q e)))) (Q (.int .i64 (4:Int)))) (Q (.int .i64 (4:Int))))) (Q (.int .i64 (4:Int))))) (Q (.int .i64 (4:Int))))) False))))):=by kernel_rfl
def Qy [Env] (vs:List V) (σ:St) (k:ah):Prop:=
 match vs with
 | [.agg [.int .i64 a,.int .i64 b,.int .u64 c,.str s]]=>(0≤c∧c<18446744073709551616)∧k (.int .i64 (bp ⟨a,b,c,s⟩)) σ
 | _=>False
def LH [Env]:=kS 148 Qy LG
def H8:Nat→List Nat:=(fun _=>[])
abbrev Qz [Env] (A:Nat→List SV→Prop) (Q:V→Prop) (e:az):Prop:=
 ((.i64:IntKind)=.i64∧aa (decide ((((len e.f3:Nat):Int))>(64:Int))) (Q (.int .i64 (2:Int))) (((.i64:IntKind)=.i64∧aa (decide (e.f0=(5:Int))) ((e.f3.length≤64∧aa ((!(dZ e.f3.length e.f3))) (Q (.int .i64 (7:Int))) (Q (.int .i64 (0:Int))))) (Q (.int .i64 (0:Int))))))
abbrev T2 [Env] (A:Nat→List SV→Prop) (Q:V→Prop) (e:az):Prop:=
 ((.i64:IntKind)=.i64∧aa (decide (e.f0=(3:Int))) (((0≤e.f2∧e.f2<18446744073709551616)∧aa (V.beq (.int .u64 e.f2) (.int .u64 e.f2)&&true) (((.u64:IntKind)=.u64∧aa (decide ((fQ e.f2)≠e.f2)) (Q (.int .i64 (4:Int))) ((Qz A Q e)))) False)) ((Qz A Q e)))
abbrev qa [Env] (A:Nat→List SV→Prop) (Q:V→Prop) (e:az):Prop:=
 ((.i64:IntKind)=.i64∧aa (decide (e.f0=(1:Int))) (((.i64:IntKind)=.i64∧aa (decide (e.f1≠(0:Int))) (((.i64:IntKind)=.i64∧aa (decide (e.f1≠(1:Int))) (Q (.int .i64 (6:Int))) ((T2 A Q e)))) ((T2 A Q e)))) ((T2 A Q e)))
abbrev Yp [Env] (A:Nat→List SV→Prop) (Q:V→Prop) (e:az):Prop:=
 ((.i64:IntKind)=.i64∧aa (decide (e.f0<(0:Int))) (Q (.int .i64 (5:Int))) (((.i64:IntKind)=.i64∧aa (decide (e.f0>(5:Int))) (Q (.int .i64 (5:Int))) (((.i64:IntKind)=.i64∧aa (decide (e.f1≠(0:Int))) (((.u64:IntKind)=.u64∧aa (decide (e.f2≠(0:Int))) (((.i64:IntKind)=.i64∧aa (decide (e.f0≠(3:Int))) (Q (.int .i64 (4:Int))) (aa (decide (e.f3≠[])) ((qa A Q e)) ((qa A Q e))))) (aa (decide (e.f3≠[])) ((qa A Q e)) ((qa A Q e))))) (((.u64:IntKind)=.u64∧aa (decide (e.f2≠(0:Int))) (((.i64:IntKind)=.i64∧aa (decide (e.f0≠(3:Int))) (Q (.int .i64 (4:Int))) (aa (decide (e.f3≠[])) ((qa A Q e)) ((qa A Q e))))) (aa (decide (e.f3≠[])) ((qa A Q e)) ((qa A Q e))))))))))
abbrev T3 [Env] (A:Nat→List SV→Prop) (Q:V→Prop) (e:az):Prop:=
 ((.u64:IntKind)=.u64∧aa (decide (e.f2≠(0:Int))) (((.i64:IntKind)=.i64∧aa (decide (e.f0≠(3:Int))) (Q (.int .i64 (4:Int))) (aa (decide (e.f3≠[])) (Q (.int .i64 (4:Int))) ((qa A Q e))))) (aa (decide (e.f3≠[])) (Q (.int .i64 (4:Int))) ((qa A Q e))))
abbrev Yq [Env] (A:Nat→List SV→Prop) (Q:V→Prop) (e:az):Prop:=
 ((.i64:IntKind)=.i64∧aa (decide (e.f0=(4:Int))) ((Yp A Q e)) (((.i64:IntKind)=.i64∧aa (decide (e.f0=(5:Int))) ((Yp A Q e)) (((.i64:IntKind)=.i64∧aa (decide (e.f0<(0:Int))) (Q (.int .i64 (5:Int))) (((.i64:IntKind)=.i64∧aa (decide (e.f0>(5:Int))) (Q (.int .i64 (5:Int))) (((.i64:IntKind)=.i64∧aa (decide (e.f1≠(0:Int))) ((T3 A Q e)) ((T3 A Q e)))))))))))
abbrev Yr [Env] (A:Nat→List SV→Prop) (Q:V→Prop) (e:az):Prop:=
 ((.i64:IntKind)=.i64∧aa (decide (e.f0<(0:Int))) (Q (.int .i64 (5:Int))) (((.i64:IntKind)=.i64∧aa (decide (e.f0>(5:Int))) (Q (.int .i64 (5:Int))) (((.i64:IntKind)=.i64∧aa (decide (e.f1≠(0:Int))) (Q (.int .i64 (4:Int))) (((.u64:IntKind)=.u64∧aa (decide (e.f2≠(0:Int))) (((.i64:IntKind)=.i64∧aa (decide (e.f0≠(3:Int))) (Q (.int .i64 (4:Int))) (aa (decide (e.f3≠[])) ((qa A Q e)) ((qa A Q e))))) (aa (decide (e.f3≠[])) ((qa A Q e)) ((qa A Q e))))))))))
theorem afX [Env] (A:Nat→List SV→Prop) (Q:V→Prop) (e:az):WE Tryz.prog 153 Tryz.f153 LH 0 H8 A (fun v _=>Q v) [az.enc e] Go.Ev.start=
  (((.i64:IntKind)=.i64∧aa (decide (e.f0=(1:Int))) ((Yq A Q e)) (((.i64:IntKind)=.i64∧aa (decide (e.f0=(2:Int))) ((Yq A Q e)) (((.i64:IntKind)=.i64∧aa (decide (e.f0=(4:Int))) ((Yr A Q e)) (((.i64:IntKind)=.i64∧aa (decide (e.f0=(5:Int))) ((Yr A Q e)) (((.i64:IntKind)=.i64∧aa (decide (e.f0<(0:Int))) (Q (.int .i64 (5:Int))) (((.i64:IntKind)=.i64∧aa (decide (e.f0>(5:Int))) (Q (.int .i64 (5:Int))) (((.i64:IntKind)=.i64∧aa (decide (e.f1≠(0:Int))) (Q (.int .i64 (4:Int))) ((T3 A Q e)))))))))))))))):=by kernel_rfl
def QA [Env] (vs:List V) (σ:St) (k:ah):Prop:=
 match vs with
 | [.agg [.int .i64 a,.int .i64 b,.int .u64 c,.str s]]=>(0≤c∧c<18446744073709551616)∧k (.int .i64 (bp ⟨a,b,c,s⟩)) σ
 | _=>False
def AV [Env]:=kS 153 QA LH
def wW:Nat→List Nat:=(fun i=>match i with | 0=>[15,16,17] | _=>[])
theorem Ys [Env] (A:Nat→List SV→Prop) (Q:V→Prop) (s:List UInt8):WE Tryz.prog 176 Tryz.f176 AV 0 wW A (fun v _=>Q v) [.str s] Go.Ev.start=
  (aa (decide (s=[])) (Q (.int .i64 (8:Int))) (((.i64:IntKind)=.i64∧aa (decide ((((len s:Nat):Int))>(16:Int))) (Q (.int .i64 (8:Int))) ((len s≤1099511627776∧(((len s)=(len s)∧1=1)∧A 0 [.row (len s) (dM s) 1,.val (.int .i64 (((len s:Nat):Int))),.val (.int .i64 (0:Int))])))))):=by kernel_rfl
abbrev QB [Env] (A:Nat→List SV→Prop) (Q:V→Prop) (s:List UInt8) (n i:Int):Prop:=
 ((.u8:IntKind)=.u8∧aa (decide ((aw s i.toNat)=(95:Int))) (((.i64:IntKind)=.i64∧aa (decide (i=(0:Int))) (Q (.int .i64 (8:Int))) ((((len s)=(len s)∧1=1)∧A 0 [.row (len s) (dM s) 1,.val (.int .i64 n),.val (.int .i64 (IntKind.i64.wrap (i+(1:Int))))])))) (((.i64:IntKind)=.i64∧aa (decide (i=(0:Int))) (Q (.int .i64 (8:Int))) (Q (.int .i64 (8:Int))))))
abbrev QC [Env] (A:Nat→List SV→Prop) (Q:V→Prop) (s:List UInt8) (n i:Int):Prop:=
 ((.u8:IntKind)=.u8∧aa (decide ((aw s i.toNat)≥(48:Int))) (((.u8:IntKind)=.u8∧aa (decide ((aw s i.toNat)≤(57:Int))) (((.i64:IntKind)=.i64∧aa (decide (i=(0:Int))) (Q (.int .i64 (8:Int))) ((((len s)=(len s)∧1=1)∧A 0 [.row (len s) (dM s) 1,.val (.int .i64 n),.val (.int .i64 (IntKind.i64.wrap (i+(1:Int))))])))) ((QB A Q s n i)))) ((QB A Q s n i)))
abbrev QD [Env] (A:Nat→List SV→Prop) (Q:V→Prop) (s:List UInt8) (n i:Int):Prop:=
 ((.u8:IntKind)=.u8∧aa (decide ((aw s i.toNat)=(95:Int))) ((((len s)=(len s)∧1=1)∧A 0 [.row (len s) (dM s) 1,.val (.int .i64 n),.val (.int .i64 (IntKind.i64.wrap (i+(1:Int))))])) ((((len s)=(len s)∧1=1)∧A 0 [.row (len s) (dM s) 1,.val (.int .i64 n),.val (.int .i64 (IntKind.i64.wrap (i+(1:Int))))])))
theorem afY [Env] (A:Nat→List SV→Prop) (Q:V→Prop) (s:List UInt8) (n i:Int):WL Tryz.prog 176 Tryz.f176 AV 0 wW A (fun v _=>Q v) 0 [.row (len s) (dM s) 1,.val (.int .i64 n),.val (.int .i64 i)]=
  (((.i64:IntKind)=.i64∧aa (decide (i<n)) (((0≤i∧i<((len s:Nat):Int))∧(i.toNat<len s∧((.u8:IntKind)=.u8∧aa (decide ((aw s i.toNat)≥(97:Int))) (((.u8:IntKind)=.u8∧aa (decide ((aw s i.toNat)≤(122:Int))) (((.u8:IntKind)=.u8∧aa (decide ((aw s i.toNat)≥(48:Int))) (((.u8:IntKind)=.u8∧aa (decide ((aw s i.toNat)≤(57:Int))) ((((len s)=(len s)∧1=1)∧A 0 [.row (len s) (dM s) 1,.val (.int .i64 n),.val (.int .i64 (IntKind.i64.wrap (i+(1:Int))))])) ((QD A Q s n i)))) ((QD A Q s n i)))) ((QC A Q s n i)))) ((QC A Q s n i)))))) (Q (.int .i64 (0:Int))))):=by kernel_rfl
def QE [Env] (vs:List V) (σ:St) (k:ah):Prop:=
 match vs with
 | [.str s]=>k (.int .i64 (aK s)) σ
 | _=>False
def LI [Env]:=kS 176 QE AV
def H9:Nat→List Nat:=(fun _=>[])
theorem afZ [Env] (A:Nat→List SV→Prop) (Q:V→Prop) (c:Int):WE Tryz.prog 152 Tryz.f152 LI 0 H9 A (fun v _=>Q v) [.int .u8 c] Go.Ev.start=
  (((.u8:IntKind)=.u8∧aa (decide (c≥(97:Int))) (((.u8:IntKind)=.u8∧aa (decide (c≤(122:Int))) (Q (.bool true)) (Q (.bool false)))) (Q (.bool false)))):=by kernel_rfl
def QF [Env] (vs:List V) (σ:St) (k:ah):Prop:=
 match vs with
 | [.int .u8 c]=>k (.bool (eN c)) σ
 | _=>False
def E5 [Env]:=kS 152 QF LI
def AW:Nat→List Nat:=(fun i=>match i with | 0=>[0,3] | _=>[])
theorem af0 [Env] (A:Nat→List SV→Prop) (Q:V→Prop) (s:List UInt8):WE Tryz.prog 106 Tryz.f106 E5 0 AW A (fun v _=>Q v) [.str s] Go.Ev.start=
  (((.i64:IntKind)=.i64∧aa (decide ((((len s:Nat):Int))<(1:Int))) (Q (.int .i64 (8:Int))) (((.i64:IntKind)=.i64∧aa (decide ((((len s:Nat):Int))>(16:Int))) (Q (.int .i64 (8:Int))) (((0≤(0:Int)∧(0:Int)<((len s:Nat):Int))∧aa ((!(eN (bF s (0:Int))))) (Q (.int .i64 (8:Int))) (A 0 [.val (.str s),.val (.int .i64 (1:Int))]))))))):=by kernel_rfl
theorem af1 [Env] (A:Nat→List SV→Prop) (Q:V→Prop) (s:List UInt8) (i:Int):WL Tryz.prog 106 Tryz.f106 E5 0 AW A (fun v _=>Q v) 0 [.val (.str s),.val (.int .i64 i)]=
  (((.i64:IntKind)=.i64∧aa (decide (i<(((len s:Nat):Int)))) (((0≤i∧i<((len s:Nat):Int))∧aa ((!(eN (bF s i)))==true) (aa ((!(eN (bF s i)))==true) (aa ((!(eN (bF s i)))==true) (((0≤i∧i<((len s:Nat):Int))∧aa ((!(eN (bF s i)))==true) (((.u8:IntKind)=.u8∧aa (decide ((bF s i)≠(95:Int))) (aa (!(eN (bF s i))) (((0≤i∧i<((len s:Nat):Int))∧((.u8:IntKind)=.u8∧aa (decide ((bF s i)<(48:Int))) (Q (.int .i64 (8:Int))) (((0≤i∧i<((len s:Nat):Int))∧((.u8:IntKind)=.u8∧aa (decide ((bF s i)>(57:Int))) (Q (.int .i64 (8:Int))) (A 0 [.val (.str s),.val (.int .i64 (IntKind.i64.wrap (i+(1:Int))))]))))))) (A 0 [.val (.str s),.val (.int .i64 (IntKind.i64.wrap (i+(1:Int))))])) (aa (!(eN (bF s i))) (A 0 [.val (.str s),.val (.int .i64 (IntKind.i64.wrap (i+(1:Int))))]) (A 0 [.val (.str s),.val (.int .i64 (IntKind.i64.wrap (i+(1:Int))))])))) (aa (!(eN (bF s i))) False (A 0 [.val (.str s),.val (.int .i64 (IntKind.i64.wrap (i+(1:Int))))])))) (aa ((!(eN (bF s i)))==true) False (aa (!(eN (bF s i))) False (A 0 [.val (.str s),.val (.int .i64 (IntKind.i64.wrap (i+(1:Int))))])))) (aa ((!(eN (bF s i)))==true) False (aa ((!(eN (bF s i)))==true) False (aa (!(eN (bF s i))) False (A 0 [.val (.str s),.val (.int .i64 (IntKind.i64.wrap (i+(1:Int))))]))))) (aa ((!(eN (bF s i)))==true) (aa ((!(eN (bF s i)))==true) False (aa ((!(eN (bF s i)))==true) False (aa (!(eN (bF s i))) False (A 0 [.val (.str s),.val (.int .i64 (IntKind.i64.wrap (i+(1:Int))))])))) (aa ((!(eN (bF s i)))==true) False (aa ((!(eN (bF s i)))==true) False (aa (!(eN (bF s i))) False (A 0 [.val (.str s),.val (.int .i64 (IntKind.i64.wrap (i+(1:Int))))]))))))) (Q (.int .i64 (0:Int))))):=by kernel_rfl
def QG [Env] (vs:List V) (σ:St) (k:ah):Prop:=
 match vs with
 | [.str s]=>k (.int .i64 (aK s)) σ
 | _=>False
def E6 [Env]:=kS 106 QG E5
def AX:Nat→List Nat:=(fun i=>match i with | 0=>[0,5,8,9,10] | _=>[])
theorem af2 [Env] (A:Nat→List SV→Prop) (Q:V→Prop) (s:List UInt8) (n:Nat) (h:Nat→List UInt8):WE Tryz.prog 222 Tryz.f222 E6 0 AX A (fun v _=>Q v) [.str s,V.arr n (fun i=>V.str (h i)) 1 false false] Go.Ev.start=
  (A 0 [.val (.str s),.val (.int .i64 (0:Int)),.val (V.arr n (fun i=>V.str (h i)) 1 false false),.val (.int .i64 (((n:Nat):Int))),.val (.int .i64 (0:Int))]):=by kernel_rfl
theorem af3 [Env] (A:Nat→List SV→Prop) (Q:V→Prop) (s:List UInt8) (n:Nat) (h:Nat→List UInt8) (c m i:Int):WL Tryz.prog 222 Tryz.f222 E6 0 AX A (fun v _=>Q v) 0 [.val (.str s),.val (.int .i64 c),.val (V.arr n (fun i=>V.str (h i)) 1 false false),.val (.int .i64 m),.val (.int .i64 i)]=
  (((.i64:IntKind)=.i64∧aa (decide (i<m)) (((0≤i∧i<((n:Nat):Int))∧aa (decide ((h i.toNat)=s)) (A 0 [.val (.str s),.val (.int .i64 (IntKind.i64.wrap (c+(1:Int)))),.val (V.arr n (fun i=>V.str (h i)) 1 false false),.val (.int .i64 m),.val (.int .i64 (IntKind.i64.wrap (i+(1:Int))))]) (A 0 [.val (.str s),.val (.int .i64 c),.val (V.arr n (fun i=>V.str (h i)) 1 false false),.val (.int .i64 m),.val (.int .i64 (IntKind.i64.wrap (i+(1:Int))))]))) (Q (.int .i64 c)))):=by kernel_rfl
def QH [Env] (vs:List V) (σ:St) (k:ah):Prop:=
 match vs with
 | [.str s,.arr n f 1 false false]=>∃q:Nat→List UInt8,f=(fun i=>V.str (q i))∧n≤1000000∧k (.int .i64 (k0 s q n)) σ
 | _=>False
def E7 [Env]:=kS 222 QH E6
def AY:Nat→List Nat:=(fun i=>match i with | 0=>[0,5,6,7] | _=>[])
theorem af4 [Env] (A:Nat→List SV→Prop) (Q:V→Prop) (n:Nat) (h:Nat→List UInt8):WE Tryz.prog 178 Tryz.f178 E7 0 AY A (fun v _=>Q v) [V.arr n (fun i=>V.str (h i)) 1 false false] Go.Ev.start=
  (A 0 [.val (V.arr n (fun i=>V.str (h i)) 1 false false),.val (V.arr n (fun i=>V.str (h i)) 1 false false),.val (.int .i64 (((n:Nat):Int))),.val (.int .i64 (0:Int))]):=by kernel_rfl
theorem af5 [Env] (A:Nat→List SV→Prop) (Q:V→Prop) (n:Nat) (h:Nat→List UInt8) (m i:Int):WL Tryz.prog 178 Tryz.f178 E7 0 AY A (fun v _=>Q v) 0 [.val (V.arr n (fun i=>V.str (h i)) 1 false false),.val (V.arr n (fun i=>V.str (h i)) 1 false false),.val (.int .i64 m),.val (.int .i64 i)]=
  (((.i64:IntKind)=.i64∧aa (decide (i<m)) (((0≤i∧i<((n:Nat):Int))∧(∃q:Nat→List UInt8,(fun i=>V.str (h i))=(fun i=>V.str (q i))∧n≤1000000∧((.i64:IntKind)=.i64∧aa (decide ((k0 ((h i.toNat)) q n)>(1:Int))) (Q (.bool false)) (A 0 [.val (V.arr n (fun i=>V.str (h i)) 1 false false),.val (V.arr n (fun i=>V.str (h i)) 1 false false),.val (.int .i64 m),.val (.int .i64 (IntKind.i64.wrap (i+(1:Int))))]))))) (Q (.bool true)))):=by kernel_rfl
def QI [Env] (vs:List V) (σ:St) (k:ah):Prop:=
 match vs with
 | [.arr n f 1 false false]=>∃q:Nat→List UInt8,f=(fun i=>V.str (q i))∧n≤1000000∧k (.bool (gh q n)) σ
 | _=>False
def E8 [Env]:=kS 178 QI E7
def E9:Nat→List Nat:=(fun i=>match i with | 0=>[0,1,5] | _=>[])
theorem e42 [Env] (A:Nat→List SV→Prop) (Q:V→Prop) (n:Nat) (h:Nat→List UInt8) (s:List UInt8):WE Tryz.prog 42 Tryz.f42 E8 0 E9 A (fun v _=>Q v) [V.arr n (fun i=>V.str (h i)) 1 false false,.str s] Go.Ev.start=
  (A 0 [.val (V.arr n (fun i=>V.str (h i)) 1 false false),.val (.str s),.val (.int .i64 (0:Int))]):=by kernel_rfl
theorem r42 [Env] (A:Nat→List SV→Prop) (Q:V→Prop) (n:Nat) (h:Nat→List UInt8) (s:List UInt8) (i:Int):WL Tryz.prog 42 Tryz.f42 E8 0 E9 A (fun v _=>Q v) 0 [.val (V.arr n (fun i=>V.str (h i)) 1 false false),.val (.str s),.val (.int .i64 i)]=
  (((.i64:IntKind)=.i64∧aa (decide (i<(((n:Nat):Int)))) (((0≤i∧i<((n:Nat):Int))∧aa (decide ((h i.toNat)=s)) (Q (.int .i64 i)) (A 0 [.val (V.arr n (fun i=>V.str (h i)) 1 false false),.val (.str s),.val (.int .i64 (IntKind.i64.wrap (i+(1:Int))))]))) (Q (.int .i64 (-1:Int))))):=by kernel_rfl
def Yt [Env] (vs:List V) (σ:St) (k:ah):Prop:=
 match vs with
 | [.arr n f 1 false false,.str s]=>∃q:Nat→List UInt8,f=(fun i=>V.str (q i))∧n≤1000000∧k (.int .i64 (ct s q n)) σ
 | _=>False
def Fa [Env]:=kS 42 Yt E8
def AZ:Nat→List Nat:=(fun i=>match i with | 0=>[0,3] | _=>[])
theorem af6 [Env] (A:Nat→List SV→Prop) (Q:V→Prop) (n:Nat) (h:Nat→List UInt8):WE Tryz.prog 108 Tryz.f108 Fa 0 AZ A (fun v _=>Q v) [V.arr n (fun i=>V.str (h i)) 1 false false] Go.Ev.start=
  (A 0 [.val (V.arr n (fun i=>V.str (h i)) 1 false false),.val (.int .i64 (0:Int))]):=by kernel_rfl
theorem af7 [Env] (A:Nat→List SV→Prop) (Q:V→Prop) (n:Nat) (h:Nat→List UInt8) (i:Int):WL Tryz.prog 108 Tryz.f108 Fa 0 AZ A (fun v _=>Q v) 0 [.val (V.arr n (fun i=>V.str (h i)) 1 false false),.val (.int .i64 i)]=
  (((.i64:IntKind)=.i64∧aa (decide (i<(((n:Nat):Int)))) (((0≤i∧i<((n:Nat):Int))∧(∃q:Nat→List UInt8,(fun i=>V.str (h i))=(fun i=>V.str (q i))∧n≤1000000∧((.i64:IntKind)=.i64∧aa (decide ((ct ((h i.toNat)) q n)≠i)) (Q (.bool false)) (A 0 [.val (V.arr n (fun i=>V.str (h i)) 1 false false),.val (.int .i64 (IntKind.i64.wrap (i+(1:Int))))]))))) (Q (.bool true)))):=by kernel_rfl
def QJ [Env] (vs:List V) (σ:St) (k:ah):Prop:=
 match vs with
 | [.arr n f 1 false false]=>∃q:Nat→List UInt8,f=(fun i=>V.str (q i))∧n≤1000000∧k (.bool (gh q n)) σ
 | _=>False
def Fb [Env]:=kS 108 QJ Fa
end Go.Proofs.YtbajncpfmemdgaaGreatDoor
end
section
namespace Go.Proofs.YtbajncpfmemdgaaGreatDoor
open Go Go.Ev
def A0:Nat→List Nat:=(fun i=>match i with | 0=>[3,9,10,11] | _=>[])
theorem af8 [Env] (A:Nat→List SV→Prop) (Q:V→St→Prop) (n:Nat) (g:Nat→aj):WE Tryz.prog 179 Tryz.f179 Fb 0 A0 A Q [V.arr n (fun i=>aj.enc (g i)) 7 false false] Go.Ev.start=
  (((0≤(((n:Nat):Int))∧(((n:Nat):Int))≤(((n:Nat):Int))∧(((n:Nat):Int)).toNat*16≤1099511627776∧(((n:Nat):Int))≤1099511627776)∧(((((n:Nat):Int)).toNat≤(((n:Nat):Int)).toNat∧(((n:Nat):Int)).toNat*1=(((n:Nat):Int)).toNat*1)∧A 0 [.row ((((n:Nat):Int)).toNat) (fun _=>.agg [.str ([])]) 1,.val (V.arr n (fun i=>aj.enc (g i)) 7 false false),.val (.int .i64 (((n:Nat):Int))),.val (.int .i64 (0:Int))]))):=by kernel_rfl
theorem af9 [Env] (A:Nat→List SV→Prop) (Q:V→St→Prop) (n:Nat) (g:Nat→aj) (f:Nat→V) (m i:Int):WL Tryz.prog 179 Tryz.f179 Fb 0 A0 A Q 0 [.row n f 1,.val (V.arr n (fun i=>aj.enc (g i)) 7 false false),.val (.int .i64 m),.val (.int .i64 i)]=
  (((.i64:IntKind)=.i64∧aa (decide (i<m)) (((0≤i∧i<((n:Nat):Int))∧((0≤i∧i<((n:Nat):Int))∧(i.toNat<n∧((n=n∧1=1)∧A 0 [.row n (e9 f i.toNat (.str ((g i.toNat).f0))) 1,.val (V.arr n (fun i=>aj.enc (g i)) 7 false false),.val (.int .i64 m),.val (.int .i64 (IntKind.i64.wrap (i+(1:Int))))]))))) (Q (.own 0 n 1) ⟨(St.new Go.Ev.start 0 (.row n f 1 false)).heap,1⟩))):=by kernel_rfl
def QK [Env] (vs:List V) (σ:St) (k:ah):Prop:=
 match vs with
 | [.arr n f 7 false false]=>∃q:Nat→aj,f=(fun i=>aj.enc (q i))∧n≤1000∧k (.arr n (fun i=>V.str (q i).f0) 1 false false) σ
 | _=>False
def A1 [Env]:=kS 179 QK Fb
def wX:Nat→List Nat:=(fun i=>match i with | 0=>[0,3,4] | _=>[])
theorem aga [Env] (A:Nat→List SV→Prop) (Q:V→St→Prop) (n:Nat) (g:Nat→aj):WE Tryz.prog 109 Tryz.f109 A1 0 wX A Q [V.arr n (fun i=>aj.enc (g i)) 7 false false] Go.Ev.start=
  (A 0 [.val (V.arr n (fun i=>aj.enc (g i)) 7 false false),.val (.ak),.val (.int .i64 (0:Int))]):=by kernel_rfl
theorem acH [Env] (A:Nat→List SV→Prop) (Q:V→St→Prop) (n:Nat) (g:Nat→aj) (i:Int):WL Tryz.prog 109 Tryz.f109 A1 0 wX A Q 0 [.val (V.arr n (fun i=>aj.enc (g i)) 7 false false),.val (.ak),.val (.int .i64 i)]=
  (((.i64:IntKind)=.i64∧aa (decide (i<(((n:Nat):Int)))) (((0≤i∧i<((n:Nat):Int))∧(((1:Nat)=1∧(1:Nat)=1∧1*1=1*1)∧A 0 [.val (V.arr n (fun i=>aj.enc (g i)) 7 false false),.row 1 (fun _=>.agg [.str ((g i.toNat).f0)]) 1,.val (.int .i64 (IntKind.i64.wrap (i+(1:Int))))]))) (Q (.ak) ⟨Go.Ev.start.heap,0⟩))):=by kernel_rfl
theorem acI [Env] (A:Nat→List SV→Prop) (Q:V→St→Prop) (n:Nat) (g:Nat→aj) (m:Nat) (f:Nat→V) (i:Int):WL Tryz.prog 109 Tryz.f109 A1 0 wX A Q 0 [.val (V.arr n (fun i=>aj.enc (g i)) 7 false false),.row m f 1,.val (.int .i64 i)]=
  (((.i64:IntKind)=.i64∧aa (decide (i<(((n:Nat):Int)))) (((0≤i∧i<((n:Nat):Int))∧((m=m∧(m+1)*16≤1099511627776)∧(((m+1)=(m+1)∧1=1)∧A 0 [.val (V.arr n (fun i=>aj.enc (g i)) 7 false false),.row (m+1) (dL m f (fun _=>.agg [.str ((g i.toNat).f0)])) 1,.val (.int .i64 (IntKind.i64.wrap (i+(1:Int))))])))) (Q (.own 0 m 1) ⟨(St.new Go.Ev.start 0 (.row m f 1 false)).heap,1⟩))):=by kernel_rfl
def QL [Env] (vs:List V) (σ:St) (k:ah):Prop:=
 match vs with
 | [.arr n f 7 false false]=>∃q:Nat→aj,f=(fun i=>aj.enc (q i))∧n≤1000∧k (.arr n (fun i=>V.str (q i).f0) 1 false false) σ
 | _=>False
def LJ [Env]:=kS 109 QL A1
def Ia:Nat→List Nat:=(fun _=>[])
theorem agb [Env] (A:Nat→List SV→Prop) (Q:V→Prop) (e:aj):WE Tryz.prog 181 Tryz.f181 LJ 0 Ia A (fun v _=>Q v) [aj.enc e] Go.Ev.start=
  (Q (.bool e.f2)):=by kernel_rfl
def QM [Env] (vs:List V) (σ:St) (k:ah):Prop:=
 (∃e:aj,vs=[aj.enc e])∧match vs with
 | [.agg [_,_,.bool b,_,_,_,_]]=>k (.bool b) σ
 | _=>False
def Fc [Env]:=kS 181 QM LJ
def A2:Nat→List Nat:=(fun i=>match i with | 0=>[0,1,7,8] | _=>[])
theorem agc [Env] (A:Nat→List SV→Prop) (Q:V→Prop) (n:Nat) (g:Nat→aj):WE Tryz.prog 223 Tryz.f223 Fc 0 A2 A (fun v _=>Q v) [V.arr n (fun i=>aj.enc (g i)) 7 false false,.func (.func 181) [] []] Go.Ev.start=
  (A 0 [.val (V.arr n (fun i=>aj.enc (g i)) 7 false false),.val (.func (.func 181) [] []),.val (.int .i64 (((n:Nat):Int))),.val (.int .i64 (0:Int))]):=by kernel_rfl
theorem agd [Env] (A:Nat→List SV→Prop) (Q:V→Prop) (n:Nat) (g:Nat→aj) (m i:Int):WL Tryz.prog 223 Tryz.f223 Fc 0 A2 A (fun v _=>Q v) 0 [.val (V.arr n (fun i=>aj.enc (g i)) 7 false false),.val (.func (.func 181) [] []),.val (.int .i64 m),.val (.int .i64 i)]=
  (((.i64:IntKind)=.i64∧aa (decide (i<m)) (((0≤i∧i<((n:Nat):Int))∧((∃q:aj,[aj.enc (g i.toNat)]=[aj.enc q])∧aa ((g i.toNat).f2) (Q (.int .i64 i)) (A 0 [.val (V.arr n (fun i=>aj.enc (g i)) 7 false false),.val (.func (.func 181) [] []),.val (.int .i64 m),.val (.int .i64 (IntKind.i64.wrap (i+(1:Int))))])))) (Q (.int .i64 (-1:Int))))):=by kernel_rfl
def QN [Env] (vs:List V) (σ:St) (k:ah):Prop:=
 match vs with
 | [.arr n f 7 false false,.func (.func 181) [] []]=>∃q:Nat→aj,f=(fun i=>aj.enc (q i))∧n≤1000∧∀c:Int,(0≤c↔eU q n=true)→k (.int .i64 c) σ
 | _=>False
def LK [Env]:=kS 223 QN Fc
def Ib:Nat→List Nat:=(fun _=>[])
theorem age [Env] (A:Nat→List SV→Prop) (Q:V→Prop) (n:Nat) (g:Nat→aj):WE Tryz.prog 180 Tryz.f180 LK 0 Ib A (fun v _=>Q v) [V.arr n (fun i=>aj.enc (g i)) 7 false false,.func (.func 181) [] []] Go.Ev.start=
  ((∃q:Nat→aj,(fun i=>aj.enc (g i))=(fun i=>aj.enc (q i))∧n≤1000∧∀c:Int,(0≤c↔eU q n=true)→((.i64:IntKind)=.i64∧aa (decide (c≥(0:Int))) (Q (.bool true)) (Q (.bool false))))):=by kernel_rfl
def QO [Env] (vs:List V) (σ:St) (k:ah):Prop:=
 match vs with
 | [.arr n f 7 false false,.func (.func 181) [] []]=>∃q:Nat→aj,f=(fun i=>aj.enc (q i))∧n≤1000∧k (.bool (eU q n)) σ
 | _=>False
def LL [Env]:=kS 180 QO LK
def Ic:Nat→List Nat:=(fun _=>[])
theorem agf [Env] (A:Nat→List SV→Prop) (Q:V→Prop) (e:aj):WE Tryz.prog 177 Tryz.f177 LL 0 Ic A (fun v _=>Q v) [aj.enc e] Go.Ev.start=
  (((.i64:IntKind)=.i64∧aa (decide ((aK e.f0)≠(0:Int))) (Q (.iface 216 (.agg [.int .i64 (aK e.f0)]))) (((.i64:IntKind)=.i64∧aa (decide (e.f1<(1:Int))) (Q (.iface 216 (.agg [.int .i64 (5:Int)]))) (((.i64:IntKind)=.i64∧aa (decide (e.f1>(5:Int))) (Q (.iface 216 (.agg [.int .i64 (5:Int)]))) (((0≤e.f3.f2∧e.f3.f2<18446744073709551616)∧((.i64:IntKind)=.i64∧aa (decide ((bp ⟨e.f3.f0,e.f3.f1,e.f3.f2,e.f3.f3⟩)≠(0:Int))) (Q (.iface 216 (.agg [.int .i64 (bp ⟨e.f3.f0,e.f3.f1,e.f3.f2,e.f3.f3⟩)]))) (((.i64:IntKind)=.i64∧aa (decide (e.f3.f0≠(0:Int))) (((.i64:IntKind)=.i64∧aa (decide (e.f3.f0≠e.f1)) (Q (.iface 216 (.agg [.int .i64 (11:Int)]))) (Q (.bh)))) (Q (.bh))))))))))))):=by kernel_rfl
def QP [Env] (vs:List V) (σ:St) (k:ah):Prop:=
 ∃e:aj,vs=[aj.enc e]∧mW e∧(bO e=0→k .bh σ)∧(bO e≠0→k (.iface 216 (.agg [.int .i64 (bO e)])) σ)
def LM [Env]:=kS 177 QP LL
def Ie:Nat→List Nat:=(fun _=>[])
theorem agh [Env] (A:Nat→List SV→Prop) (Q:V→Prop) (e:aj):WE Tryz.prog 107 Tryz.f107 LM 0 Ie A (fun v _=>Q v) [aj.enc e] Go.Ev.start=
  (((.i64:IntKind)=.i64∧aa (decide ((aK e.f0)≠(0:Int))) (Q (.int .i64 (aK e.f0))) (((.i64:IntKind)=.i64∧aa (decide (e.f1<(1:Int))) (Q (.int .i64 (5:Int))) (((.i64:IntKind)=.i64∧aa (decide (e.f1>(5:Int))) (Q (.int .i64 (5:Int))) (((0≤e.f3.f2∧e.f3.f2<18446744073709551616)∧((.i64:IntKind)=.i64∧aa (decide ((bp ⟨e.f3.f0,e.f3.f1,e.f3.f2,e.f3.f3⟩)≠(0:Int))) (Q (.int .i64 (bp ⟨e.f3.f0,e.f3.f1,e.f3.f2,e.f3.f3⟩))) (((.i64:IntKind)=.i64∧aa (decide (e.f3.f0≠(0:Int))) (((.i64:IntKind)=.i64∧aa (decide (e.f3.f0≠e.f1)) (Q (.int .i64 (11:Int))) (Q (.int .i64 (0:Int))))) (Q (.int .i64 (0:Int)))))))))))))):=by kernel_rfl
def QQ [Env] (vs:List V) (σ:St) (k:ah):Prop:=
 ∃e:aj,vs=[aj.enc e]∧mW e∧k (.int .i64 (bO e)) σ
def Fe [Env]:=kS 107 QQ LM
def A3:Nat→List Nat:=(fun i=>match i with | 0=>[1,42,43,44] | _=>[])
theorem agi [Env] (A:Nat→List SV→Prop) (Q:V→Prop) (e:af):WE Tryz.prog 134 Tryz.f134 Fe 0 A3 A (fun v _=>Q v) [af.enc e] Go.Ev.start=
  (((.i64:IntKind)=.i64∧aa (decide ((aK e.f0)≠(0:Int))) (Q (.iface 216 (.agg [.int .i64 (aK e.f0)]))) (((.i64:IntKind)=.i64∧aa (decide ((((e.f2.length:Nat):Int))<(1:Int))) (Q (.iface 216 (.agg [.int .i64 (2:Int)]))) (((.i64:IntKind)=.i64∧aa (decide ((((e.f2.length:Nat):Int))>(8:Int))) (Q (.iface 216 (.agg [.int .i64 (2:Int)]))) (((.i64:IntKind)=.i64∧aa (decide (e.f1<(1:Int))) (Q (.iface 216 (.agg [.int .i64 (1:Int)]))) (((.i64:IntKind)=.i64∧aa (decide (e.f1>((if (((e.f2.length:Nat):Int))<(3:Int) then(((e.f2.length:Nat):Int)) else(3:Int))))) (Q (.iface 216 (.agg [.int .i64 (1:Int)]))) (A 0 [.box [.str e.f0,.int .i64 e.f1,ae aj.enc 7 e.f2],.val (ae aj.enc 7 e.f2),.val (.int .i64 (((e.f2.length:Nat):Int))),.val (.int .i64 (0:Int))]))))))))))):=by kernel_rfl
theorem agj [Env] (A:Nat→List SV→Prop) (Q:V→Prop) (e:af) (m i:Int):WL Tryz.prog 134 Tryz.f134 Fe 0 A3 A (fun v _=>Q v) 0 [.box [.str e.f0,.int .i64 e.f1,ae aj.enc 7 e.f2],.val (ae aj.enc 7 e.f2),.val (.int .i64 m),.val (.int .i64 i)]=
  (((.i64:IntKind)=.i64∧aa (decide (i<m)) (((0≤i∧i<((e.f2.length:Nat):Int))∧(∃q8:aj,[.agg [.str ((e.f2.getD i.toNat default).f0),.int .i64 ((e.f2.getD i.toNat default).f1),.bool (e.f2.getD i.toNat default).f2,.int .i64 ((e.f2.getD i.toNat default).f3.f0),.int .i64 ((e.f2.getD i.toNat default).f3.f1),.int .u64 ((e.f2.getD i.toNat default).f3.f2),.str ((e.f2.getD i.toNat default).f3.f3)]]=[aj.enc q8]∧mW q8∧(bO q8=0→A 0 [.box [.str e.f0,.int .i64 e.f1,ae aj.enc 7 e.f2],.val (ae aj.enc 7 e.f2),.val (.int .i64 m),.val (.int .i64 (IntKind.i64.wrap (i+(1:Int))))])∧(bO q8≠0→Q (.iface 216 (.agg [.int .i64 (bO q8)])))))) ((∃q9:Nat→aj,(fun i=>aj.enc (e.f2.getD i default))=(fun i=>aj.enc (q9 i))∧e.f2.length≤1000∧(∃q10:Nat→List UInt8,(fun i=>V.str ((fun i=>(q9 i).f0) i))=(fun i=>V.str (q10 i))∧e.f2.length≤1000000∧aa ((!(gh q10 e.f2.length))) (Q (.iface 216 (.agg [.int .i64 (12:Int)]))) (((0≤(0:Int)∧(0:Int)≤e.f1∧e.f1≤((e.f2.length:Nat):Int)∧((e.f2.length:Nat):Int)≤((e.f2.length:Nat):Int))∧(∃q:Nat→aj,(fun i=>aj.enc ((fun i=>e.f2.getD (Nat.add (0:Int).toNat i) default) i))=(fun i=>aj.enc (q i))∧e.f1.toNat-(0:Int).toNat≤1000∧aa ((eU q (e.f1.toNat-(0:Int).toNat))) (Q (.iface 216 (.agg [.int .i64 (11:Int)]))) (Q (.bh)))))))))):=by kernel_rfl
def QR [Env] (vs:List V) (σ:St) (k:ah):Prop:=
 ∃e:af,vs=[af.enc e]∧ga e∧(bR e=0→k .bh σ)∧(bR e≠0→k (.iface 216 (.agg [.int .i64 (bR e)])) σ)
def Yu [Env]:=kS 134 QR Fe
def QS [Env] (vs:List V) (σ:St) (k:ah):Prop:=
 match vs with
 | [.bh]=>k (.int .i64 0) σ
 | [.iface 216 (.agg [.int .i64 n])]=>k (.int .i64 n) σ
 | _=>False
def LN [Env]:=kS 133 QS Yu
def Oo:Nat→List Nat:=(fun _=>[])
theorem e81 [Env] (A:Nat→List SV→Prop) (Q:V→Prop) (e:af):WE Tryz.prog 81 Tryz.f81 LN 0 Oo A (fun v _=>Q v) [af.enc e] Go.Ev.start=
  ((∃Oq:af,[.agg [.str e.f0,.int .i64 e.f1,ae aj.enc 7 e.f2]]=[af.enc Oq]∧ga Oq∧(bR Oq=0→Q (.int .i64 (0:Int)))∧(bR Oq≠0→Q (.int .i64 (bR Oq))))):=by kernel_rfl
def Yv [Env] (vs:List V) (σ:St) (k:ah):Prop:=
 ∃e:af,vs=[af.enc e]∧ga e∧k (.int .i64 (bR e)) σ
def A4 [Env]:=kS 81 Yv LN
def zE:Nat→List Nat:=(fun i=>match i with | 0=>[1,4] | 1=>[1,6] | _=>[])
theorem e57 [Env] (A:Nat→List SV→Prop) (Q:V→Prop) (e:af):WE Tryz.prog 57 Tryz.f57 A4 0 zE A (fun v _=>Q v) [af.enc e] Go.Ev.start=
  (((.i64:IntKind)=.i64∧aa (decide ((aK e.f0)≠(0:Int))) (Q (.int .i64 (aK e.f0))) (((.i64:IntKind)=.i64∧aa (decide ((((e.f2.length:Nat):Int))<(1:Int))) (Q (.int .i64 (2:Int))) (((.i64:IntKind)=.i64∧aa (decide ((((e.f2.length:Nat):Int))>(8:Int))) (Q (.int .i64 (2:Int))) (((.i64:IntKind)=.i64∧aa (decide (e.f1<(1:Int))) (Q (.int .i64 (1:Int))) (((.i64:IntKind)=.i64∧aa (decide (e.f1>(3:Int))) (Q (.int .i64 (1:Int))) (((.i64:IntKind)=.i64∧aa (decide (e.f1>(((e.f2.length:Nat):Int)))) (Q (.int .i64 (1:Int))) (A 0 [.box [.str e.f0,.int .i64 e.f1,ae aj.enc 7 e.f2],.val (.int .i64 (0:Int))]))))))))))))):=by kernel_rfl
theorem agk [Env] (A:Nat→List SV→Prop) (Q:V→Prop) (e:af) (i:Int):WL Tryz.prog 57 Tryz.f57 A4 0 zE A (fun v _=>Q v) 0 [.box [.str e.f0,.int .i64 e.f1,ae aj.enc 7 e.f2],.val (.int .i64 i)]=
  (((.i64:IntKind)=.i64∧aa (decide (i<(((e.f2.length:Nat):Int)))) (((0≤i∧i<((e.f2.length:Nat):Int))∧(∃T4:aj,[aj.enc (e.f2.getD i.toNat default)]=[aj.enc T4]∧mW T4∧((.i64:IntKind)=.i64∧aa (decide ((bO T4)≠(0:Int))) (Q (.int .i64 (bO T4))) (A 0 [.box [.str e.f0,.int .i64 e.f1,ae aj.enc 7 e.f2],.val (.int .i64 (IntKind.i64.wrap (i+(1:Int))))]))))) ((∃q13:Nat→aj,(fun i=>aj.enc (e.f2.getD i default))=(fun i=>aj.enc (q13 i))∧e.f2.length≤1000∧(∃q14:Nat→List UInt8,(fun i=>V.str ((fun i=>(q13 i).f0) i))=(fun i=>V.str (q14 i))∧e.f2.length≤1000000∧aa ((!(gh q14 e.f2.length))) (Q (.int .i64 (12:Int))) (A 1 [.box [.str e.f0,.int .i64 e.f1,ae aj.enc 7 e.f2],.val (.int .i64 (0:Int))])))))):=by kernel_rfl
theorem agl [Env] (A:Nat→List SV→Prop) (Q:V→Prop) (e:af) (i:Int):WL Tryz.prog 57 Tryz.f57 A4 0 zE A (fun v _=>Q v) 1 [.box [.str e.f0,.int .i64 e.f1,ae aj.enc 7 e.f2],.val (.int .i64 i)]=
  (((.i64:IntKind)=.i64∧aa (decide (i<e.f1)) (((0≤i∧i<((e.f2.length:Nat):Int))∧aa ((e.f2.getD i.toNat default).f2) (Q (.int .i64 (11:Int))) (A 1 [.box [.str e.f0,.int .i64 e.f1,ae aj.enc 7 e.f2],.val (.int .i64 (IntKind.i64.wrap (i+(1:Int))))]))) (Q (.int .i64 (0:Int))))):=by kernel_rfl
def Yw [Env] (vs:List V) (σ:St) (k:ah):Prop:=
 ∃e:af,vs=[af.enc e]∧ga e∧k (.int .i64 (bR e)) σ
def A5 [Env]:=kS 57 Yw A4
end Go.Proofs.YtbajncpfmemdgaaGreatDoor
end
section
namespace Go.Proofs.YtbajncpfmemdgaaGreatDoor
open Go Go.Ev Go.IntWalk
instance akq:Go.Ev.eQ Tryz.prog:=⟨by kernel_rfl⟩
section
variable [Env]
def eA (v:V):Prop:=∀(ρ ρ':aA) (x:Value),au ρ v x→au ρ' v x
theorem eA.int (k:IntKind) (n:Int):eA (.int k n):=fun _ _ _ h=>by cases h;exact .int _ _
theorem eA.bool (b:Bool):eA (.bool b):=fun _ _ _ h=>by cases h;exact .bool _
theorem eA.str (s:List UInt8):eA (.str s):=fun _ _ _ h=>by cases h;exact .str _
theorem eA.bh:eA .bh:=fun _ _ _ h=>by cases h;exact .bh
theorem T5 {l:List V} (h:∀v∈l,eA v) {ρ ρ':aA} {xs:List Value} (hx:ay ρ l xs):ay ρ' l xs:=by
 induction l generalizing xs with
 | nil=>cases hx;exact .nil
 | cons v l ih=>
  cases hx with
  | cons h1 h2=>exact .cons (h v List.mem_cons_self _ _ _ h1) (ih (fun u hu=>h u (List.mem_cons_of_mem _ hu)) h2)
theorem eA.tuple {l:List V} (h:∀v∈l,eA v):eA (.tuple l):=fun _ _ _ hx=>by cases hx with | tuple hx=>exact .tuple (T5 h hx)
theorem eA.agg {l:List V} (h:∀v∈l,eA v):eA (.agg l):=fun _ _ _ hx=>by cases hx with | agg hx=>exact .agg (T5 h hx)
theorem eA.iface {t:TypeId} {v:V} (h:eA v):eA (.iface t v):=fun _ _ _ hx=>by cases hx with | iface hx=>exact .iface (h _ _ _ hx)
theorem gn:∀v∈([]:List V),eA v:=fun _ h=>by cases h
theorem bN {v:V} {l:List V} (h:eA v) (hl:∀u∈l,eA u):∀u∈v::l,eA u:=fun u hu=>by
 rcases List.mem_cons.1 hu with rfl | hu
 ·exact h
 ·exact hl u hu
variable {vs us:List V} {σ:St} {k:ah} {f:FuncId} {P:Program}
theorem ag.bc {A:V→Prop} (hf:bH σ vs us) (hA:∀v,A v→eA v) (h:ag P f us (fun v _=>A v) Go.Ev.start) (hk:∀v,A v→k v σ):ag P f vs k σ:=
 (ag.TU (Q:=A) hf (fun v hv ρ ρ' x hx=>hA v hv ρ ρ' x hx) h).mono fun v τ ⟨h1,h2⟩=>by subst h2;exact hk v h1
theorem ag.cj {v:V} (hf:bH σ vs us) (hA:eA v) (h:ag P f us (fun u _=>u=v) Go.Ev.start) (hk:k v σ):ag P f vs k σ:=
 ag.bc hf (fun u e=>by rw[e];exact hA) h fun u e=>by rw[e];exact hk
theorem aM:bH σ [] []:=.nil
theorem av {v:V} {l l':List V} (h:Go.Ev.Clean v) (hl:bH σ l l'):bH σ (v::l) (v::l'):=.cons (.clean h) hl
theorem bG:∀s∈([]:List SV),s.clean:=fun _ h=>by cases h
theorem aN {s:SV} {l:List SV} (h:s.clean) (hl:∀u∈l,u.clean):∀u∈s::l,u.clean:=fun u hu=>by
 rcases List.mem_cons.1 hu with rfl | hu
 ·exact h
 ·exact hl u hu
theorem aG {kd:IntKind} {n:Int} {l:List SV} (hl:∀u∈l,u.clean):∀u∈SV.val (.int kd n)::l,u.clean:=aN (Go.Ev.Clean.int _ _) hl
theorem gD {s:List UInt8} {l:List SV} (hl:∀u∈l,u.clean):∀u∈SV.val (.str s)::l,u.clean:=aN (Go.Ev.Clean.str _) hl
end
theorem aq {c:Prop} [Decidable c] {A B:Prop} (h1:c→A) (h2:¬c→B):aa (decide c) A B:=aa.mk (fun e=>h1 (of_decide_eq_true e)) fun e=>h2 (of_decide_eq_false e)
def cb:List SV→Nat
 | []=>0
 | [.val (.int _ i)]=>i.toNat
 | _::r=>cb r
theorem dJ (n:Nat):((n:Nat):Int).toNat=n:=rfl
theorem iP (s:List UInt8) (i:Nat):0≤aw s i∧aw s i<256:=by
 unfold aw
 cases nth s i with
 | none=>exact⟨by decide,by decide⟩
 | some c=>have:=c.toNat_lt;exact⟨by simp,by show(c.toNat:Int)<256;omega⟩
theorem az.aJ [Env] (e:az):Go.Ev.Clean (az.enc e):=Go.Ev.Clean.agg e.clean
theorem aj.aJ [Env] (e:aj):Go.Ev.Clean (aj.enc e):=Go.Ev.Clean.agg e.clean
theorem af.aJ [Env] (e:af):Go.Ev.Clean (af.enc e):=Go.Ev.Clean.agg e.clean
end Go.Proofs.YtbajncpfmemdgaaGreatDoor
end
section
namespace Go.Proofs.YtbajncpfmemdgaaGreatDoor
open Go Go.Ev Go.IntWalk
theorem F273:bl Tryz.prog 273 Tryz.f273:=.of (by kernel_rfl) (by kernel_rfl)
theorem F260:bl Tryz.prog 260 Tryz.f260:=.of (by kernel_rfl) (by kernel_rfl)
theorem F235:bl Tryz.prog 235 Tryz.f235:=.of (by kernel_rfl) (by kernel_rfl)
theorem F195:bl Tryz.prog 195 Tryz.f195:=.of (by kernel_rfl) (by kernel_rfl)
theorem F274:bl Tryz.prog 274 Tryz.f274:=.of (by kernel_rfl) (by kernel_rfl)
theorem F275:bl Tryz.prog 275 Tryz.f275:=.of (by kernel_rfl) (by kernel_rfl)
theorem F263:bl Tryz.prog 263 Tryz.f263:=.of (by kernel_rfl) (by kernel_rfl)
theorem F238:bl Tryz.prog 238 Tryz.f238:=.of (by kernel_rfl) (by kernel_rfl)
theorem F203:bl Tryz.prog 203 Tryz.f203:=.of (by kernel_rfl) (by kernel_rfl)
section
variable [Env] {vs:List V} {σ:St} {k:ah}
theorem Ot:∀ {f:FuncId} {vs:List V} {σ:St} {k:ah},TV f vs σ k→ag Tryz.prog f vs k σ:=fun h=>h.elim
def Yx (c:Int) (v:V):Prop:=∃r:Int,v=.tuple [.int .i64 (eS c),.int .i64 r,.int .u8 (kr c),.int .u8 (ku c)]
omit [Env] in
theorem agm {c a b d:Int} (r:Int) (h1:eS c=a) (h2:kr c=b) (h3:ku c=d):Yx c (.tuple [.int .i64 a,.int .i64 r,.int .u8 b,.int .u8 d]):=⟨r,by rw[h1,h2,h3]⟩
theorem Va (h:Qj vs σ k):ag Tryz.prog 273 vs k σ:=by
 unfold Qj at h
 split at h
 ·rename_i c
  obtain⟨hc,h⟩:=h
  refine ag.bc (A:=Yx c) (av (Go.Ev.Clean.int _ _) aM) (fun v hv=>by obtain⟨r,rfl⟩:=hv;exact .tuple (bN (.int _ _) (bN (.int _ _) (bN (.int _ _) (bN (.int _ _) gn)))))
   (F273.flat (live:=HU) (call:=TV) (n₀:=0) (σ:=Go.Ev.start) (fun h=>Ot h) rfl (by kernel_rfl) ?_) fun v hv=>by obtain⟨r,rfl⟩:=hv;exact h r
  rw[afG]
  refine⟨rfl,aq (fun h1=>?_) fun h1=>⟨rfl,aq (fun h2=>?_) fun h2=>⟨rfl,aq (fun h3=>?_) fun h3=>⟨rfl,aq (fun h4=>?_) fun h4=>⟨rfl,aq (fun h5=>?_) fun h5=>⟨rfl,aq (fun h6=>?_) fun h6=>⟨rfl,aq (fun h7=>?_) fun h7=>⟨rfl,aq (fun h8=>?_) fun h8=>⟨rfl,aq (fun h9=>?_) fun h9=>?_⟩⟩⟩⟩⟩⟩⟩⟩⟩
  all_goals (refine agm _ ?_ ?_ ?_)
  all_goals first
   | (unfold eS;(repeat' split)<;>omega)
   | (unfold kr;(repeat' split)<;>omega)
   | (unfold ku;(repeat' split)<;>omega)
 ·exact h.elim
theorem Ou:∀ {f:FuncId} {vs:List V} {σ:St} {k:ah},Oj f vs σ k→ag Tryz.prog f vs k σ:=fun h=>aH Va Ot h
def rk (s:List UInt8) (v:V):Prop:=(cK s≠0∧∃r:Int,v=.tuple [.int .i64 r,.int .i64 (cK s),.int .i64 0])∨(cK s=0∧∃e:Int,e≠0∧v=.tuple [.int .i64 0,.int .i64 0,.int .i64 e])
theorem rk.gK (s:List UInt8):∀v,rk s v→eA v:=fun v hv=>by
 rcases hv with ⟨_,r,rfl⟩ | ⟨_,e,_,rfl⟩<;>exact .tuple (bN (.int _ _) (bN (.int _ _) (bN (.int _ _) gn)))
omit [Env] in
theorem rk.bad {s:List UInt8} {e:Int} (h:cK s=0) (he:e≠0):rk s (.tuple [.int .i64 0,.int .i64 0,.int .i64 e]):=.inr ⟨h,e,he,rfl⟩
omit [Env] in
theorem rk.A6 {s:List UInt8} {r w:Int} (h:cK s=w) (hw:w≠0):rk s (.tuple [.int .i64 r,.int .i64 w,.int .i64 0]):=.inl ⟨by rw[h];exact hw,r,by rw[h]⟩
omit [Env] in
theorem qO (c:Int):0≤eS c∧eS c≤4:=by unfold eS;(repeat' split)<;>omega
omit [Env] in
theorem ky {s:List UInt8} (h:s.length≠0):cK s=if j2 s (kr (aw s 0)) (ku (aw s 0)) ((eS (aw s 0)).toNat-1) 1=true then eS (aw s 0) else 0:=by unfold cK;rw[if_neg h]
omit [Env] in
theorem tC (s:List UInt8) (lo hi:Int) (m i:Nat):j2 s lo hi (m+1) i=(decide (i<s.length∧lo≤aw s i∧aw s i≤hi)&&j2 s 128 191 m (i+1)):=rfl
def agn (s:List UInt8):Nat→List SV→Prop
 | 0,ss=>∃(r lo hi:Int) (i:Nat),s.length≠0∧1≤i∧(i:Int)≤eS (aw s 0)∧j2 s (kr (aw s 0)) (ku (aw s 0)) ((eS (aw s 0)).toNat-1) 1=j2 s lo hi ((eS (aw s 0)).toNat-i) i∧
   ss=[.val (.str s),.val (.int .i64 (eS (aw s 0))),.val (.int .i64 r),.val (.int .u8 lo),.val (.int .u8 hi),.val (.int .i64 0),.val (.int .i64 i)]
 | _,_=>False
theorem Vb (h:Qk vs σ k):ag Tryz.prog 260 vs k σ:=by
 unfold Qk at h
 split at h
 ·rename_i s
  refine ag.bc (A:=rk s) (av (Go.Ev.Clean.str _) aM) (rk.gK s)
   (F260.cf (live:=AS) (call:=Oj) (n₀:=0) (σ:=Go.Ev.start) (fun h=>Ou h) rfl 1 (by kernel_rfl) Nat.lt_wfRel.wf (fun _ ss=>5-cb ss) (agn s) ?_ ?_ ?_) fun v hv=>by
    rcases hv with ⟨h0,r,rfl⟩ | ⟨h0,e,he,rfl⟩
    ·exact h.1 h0 r
    ·exact h.2 h0 e he
  ·intro k ss hI
   cases k with
   | zero=>obtain⟨r,lo,hi,i,_,_,_,_,rfl⟩:=hI;exact gD (aG (aG (aG (aG (aG (aG bG))))))
   | succ k=>exact hI.elim
  ·rw[afH]
   have hb:=iP s 0
   have hw:=qO (aw s 0)
   refine aq (fun h0=>.bad (by rw[h0];rfl) (by decide)) fun h0=>?_
   have hl:s.length≠0:=fun e=>h0 (List.eq_nil_of_length_eq_zero e)
   refine⟨⟨by decide,by rw[aP];omega⟩,hb,fun r=>⟨rfl,aq (fun h1=>.bad ?_ (by decide)) fun h1=>?_⟩⟩
   ·rw[ky hl]
    have h1:eS (aw s 0)=0:=h1
    rw[h1];split<;>rfl
   ·have h1:eS (aw s 0)≠0:=h1
    exact⟨r,_,_,1,hl,by omega,by omega,rfl,rfl⟩
  ·intro k hk ss hI
   obtain rfl:k=0:=by omega
   obtain⟨r,lo,hi,i,hl,h1,h2,hc,rfl⟩:=hI
   have hw:=qO (aw s 0)
   rw[afI]
   refine⟨rfl,aq (fun h3=>?_) fun h3=>?_⟩
   ·obtain⟨m,hm⟩:∃m,(eS (aw s 0)).toNat-i=m+1:=⟨(eS (aw s 0)).toNat-i-1,by omega⟩
    rw[hm,tC] at hc
    have bad:¬(i<s.length∧lo≤aw s i∧aw s i≤hi)→cK s=0:=fun hn=>by
     rw[ky hl,hc,decide_eq_false hn,Bool.false_and,if_neg (by simp)]
    refine⟨rfl,aq (fun h4=>⟨rfl,.bad (bad fun hh=>?_) (by decide)⟩) fun h4=>?_⟩
    ·rw[aP] at h4;omega
    ·rw[aP] at h4
     have eW:(0≤(i:Int)∧(i:Int)<((len s:Nat):Int)):=⟨by omega,by rw[aP];omega⟩
     refine⟨eW,rfl,aq (fun h5=>⟨rfl,.bad (bad fun hh=>?_) (by decide)⟩) fun h5=>⟨eW,rfl,aq (fun h6=>⟨rfl,.bad (bad fun hh=>?_) (by decide)⟩) fun h6=>⟨by decide,eW,?_⟩⟩⟩
     ·have h5:aw s i<lo:=h5
      omega
     ·have h6:aw s i>hi:=h6
      omega
     ·have h5:¬aw s i<lo:=h5
      have h6:¬aw s i>hi:=h6
      have fu:j2 s (kr (aw s 0)) (ku (aw s 0)) ((eS (aw s 0)).toNat-1) 1=j2 s 128 191 ((eS (aw s 0)).toNat-(i+1)) (i+1):=by
       rw[hc,decide_eq_true ⟨by omega,by omega,by omega⟩,Bool.true_and,show(eS (aw s 0)).toNat-(i+1)=m by omega]
      rw[i64_in ((i:Int)+1) (by omega)]
      refine⟨⟨_,128,191,i+1,hl,by omega,by omega,fu,rfl⟩,?_⟩
      show 5-((i:Int)+1).toNat<5-(i:Int).toNat
      omega
   ·refine⟨rfl,.A6 ?_ (by omega)⟩
    rw[ky hl,hc,show(eS (aw s 0)).toNat-i=0 by omega]
    rfl
 ·exact h.elim
theorem Ov:∀ {f:FuncId} {vs:List V} {σ:St} {k:ah},Ol f vs σ k→ag Tryz.prog f vs k σ:=fun h=>aH Vb Ou h
omit [Env] in
theorem tD (s:List UInt8):0≤cK s∧cK s≤s.length∧cK s≤4:=by
 have hw:=qO (aw s 0)
 by_cases h:s.length=0
 ·unfold cK;rw[if_pos h];omega
 ·rw[ky h]
  split
  ·rename_i hc
   have key:∀(m i:Nat) (lo hi:Int),j2 s lo hi m i=true→m=0∨i+m≤s.length:=by
    intro m
    induction m with
    | zero=>intro i lo hi _;exact .inl rfl
    | succ m ih=>
     intro i lo hi hh
     rw[tC,Bool.and_eq_true] at hh
     have h1:=of_decide_eq_true hh.1
     rcases ih _ _ _ hh.2 with h2 | h2
     ·right;omega
     ·right;omega
   rcases key _ _ _ _ hc with h1 | h1<;>omega
  ·omega
omit [Env] in
theorem Cu {n:Nat} {s:List UInt8} (h:s.length≤n) (h0:s.length≠0) (hn:cK s=0):dZ n s=false:=by
 cases n with
 | zero=>omega
 | succ n=>show(if _ then _ else if _ then _ else _)=_;rw[if_neg h0,if_pos hn]
omit [Env] in
theorem Ow:∀ {n m:Nat} {s:List UInt8},s.length≤n→s.length≤m→dZ n s=dZ m s:=by
 intro n
 induction n with
 | zero=>
  intro m s h1 h2
  have h0:s.length=0:=by omega
  cases m with
  | zero=>rfl
  | succ m=>show decide _=if _ then _ else _;rw[if_pos h0,decide_eq_true h0]
 | succ n ih=>
  intro m s h1 h2
  by_cases h0:s.length=0
  ·cases m with
   | zero=>show(if _ then _ else _)=decide _;rw[if_pos h0,decide_eq_true h0]
   | succ m=>show(if _ then _ else _)=if _ then _ else _;rw[if_pos h0,if_pos h0]
  ·cases m with
   | zero=>omega
   | succ m=>
    show(if _ then _ else if _ then _ else _)=if _ then _ else if _ then _ else _
    rw[if_neg h0,if_neg h0]
    by_cases hn:cK s=0
    ·rw[if_pos hn,if_pos hn]
    ·rw[if_neg hn,if_neg hn]
     have:=tD s
     exact ih (by rw[List.length_drop];omega) (by rw[List.length_drop];omega)
omit [Env] in
theorem Cv {s:List UInt8} (h0:s.length≠0) (hn:cK s≠0):dZ s.length s=dZ (s.drop (cK s).toNat).length (s.drop (cK s).toNat):=by
 have:=tD s
 obtain⟨m,hm⟩:∃m,s.length=m+1:=⟨s.length-1,by omega⟩
 have e:dZ s.length s=dZ m (s.drop (cK s).toNat):=by
  rw[hm]
  show(if _ then _ else if _ then _ else _)=_
  rw[if_neg h0,if_neg hn]
 rw[e]
 exact Ow (by rw[List.length_drop];omega) (Nat.le_refl _)
def Yy (s:List UInt8) (v:V):Prop:=∃c:Int,(0≤c↔dZ s.length s=true)∧v=.int .i64 c
def ago (s:List UInt8):Nat→List SV→Prop
 | 0,ss=>∃(t:List UInt8) (i:Int),0≤i∧i+t.length≤64∧dZ s.length s=dZ t.length t∧ss=[.val (.str t),.val (.int .i64 i)]
 | _,_=>False
def Yz:List SV→Nat
 | .val (.str s)::_=>s.length
 | _=>0
theorem Vc (h:Ql vs σ k):ag Tryz.prog 235 vs k σ:=by
 unfold Ql at h
 split at h
 ·rename_i s
  obtain⟨hs,h⟩:=h
  refine ag.bc (A:=Yy s) (av (Go.Ev.Clean.str _) aM) (fun v hv=>by obtain⟨c,_,rfl⟩:=hv;exact .int _ _)
   (F235.cf (live:=AT) (call:=Ol) (n₀:=0) (σ:=Go.Ev.start) (fun h=>Ov h) rfl 1 (by kernel_rfl) Nat.lt_wfRel.wf (fun _ ss=>Yz ss) (ago s) ?_ ?_ ?_) fun v hv=>by obtain⟨c,hc,rfl⟩:=hv;exact h c hc
  ·intro k ss hI
   cases k with
   | zero=>obtain⟨t,i,_,_,_,rfl⟩:=hI;exact gD (aG bG)
   | succ k=>exact hI.elim
  ·rw[afJ]
   exact⟨s,0,by omega,by omega,rfl,rfl⟩
  ·intro k hk ss hI
   obtain rfl:k=0:=by omega
   obtain⟨t,i,h0,h1,he,rfl⟩:=hI
   rw[afK]
   refine aq (fun ht=>?_) fun ht=>?_
   ·have fj:t.length≠0:=fun e=>ht (List.eq_nil_of_length_eq_zero e)
    have hn:=tD t
    refine⟨fun bS r=>⟨rfl,⟨hn.1,by rw[aP];omega,by omega⟩,?_⟩,fun hz e bS=>⟨rfl,aq (fun _=>?_) fun hh=>absurd bS hh⟩⟩
    ·have hd:c9 (cK t).toNat (cU t ((len t:Nat):Int).toNat)=t.drop (cK t).toNat:=by
      rw[er,dW,aP,Int.toNat_natCast,List.take_length]
     rw[hd,i64_in (i+1) (by omega)]
     refine⟨⟨_,i+1,by omega,?_,?_,rfl⟩,?_⟩
     ·rw[List.length_drop];omega
     ·rw[he];exact Cv fj bS
     ·show(t.drop (cK t).toNat).length<t.length
      rw[List.length_drop];omega
    ·refine⟨-1,⟨fun h=>by omega,fun h=>?_⟩,rfl⟩
     rw[he,Cu (Nat.le_refl _) fj hz] at h;cases h
   ·have ht:t=[]:=Decidable.not_not.1 ht
    subst ht
    exact⟨i,⟨fun _=>by rw[he];rfl,fun _=>h0⟩,rfl⟩
 ·exact h.elim
theorem Ox:∀ {f:FuncId} {vs:List V} {σ:St} {k:ah},TW f vs σ k→ag Tryz.prog f vs k σ:=fun h=>aH Vc Ov h
theorem Vd (h:Qm vs σ k):ag Tryz.prog 195 vs k σ:=by
 unfold Qm at h
 split at h
 ·rename_i s
  obtain⟨hs,h⟩:=h
  refine ag.cj (av (Go.Ev.Clean.str _) aM) (.bool _) (F195.flat (live:=HV) (call:=TW) (n₀:=0) (σ:=Go.Ev.start) (fun h=>Ox h) rfl (by kernel_rfl) ?_) h
  rw[afL]
  refine⟨hs,fun c hc=>⟨rfl,aq (fun h1=>?_) fun h1=>?_⟩⟩
  ·rw[hc.1 h1]
  ·have:dZ s.length s=false:=by
    cases hb:dZ s.length s with
    | false=>rfl
    | true=>exact absurd (hc.2 hb) h1
   rw[this]
 ·exact h.elim
theorem Oy:∀ {f:FuncId} {vs:List V} {σ:St} {k:ah},TX f vs σ k→ag Tryz.prog f vs k σ:=fun h=>aH Vd Ox h
end
end Go.Proofs.YtbajncpfmemdgaaGreatDoor
end
section
namespace Go.Proofs.YtbajncpfmemdgaaGreatDoor
open Go Go.Ev Go.IntWalk
theorem v3 (c:Int) (hc:0≤c∧c<256):(c8 c=1∧c<128∧ez c=c)∨(c8 c=2∧192≤c∧c<224∧ez c=c-192)∨(c8 c=3∧224≤c∧c<240∧ez c=c-224)∨
  (c8 c=4∧240≤c∧c<248∧ez c=c-240)∨(c8 c=0∧eS c=0):=by
 unfold c8 ez eS
 (repeat' split)<;>omega
theorem fI (x y w:Int) {lo hi:Int} (Oz:(if w=2 then(128:Int) else if w=3 then 2048 else if w=4 then 65536 else 0)=lo) (oK:(if w=2 then(2047:Int) else if w=3 then 65535 else if w=4 then 1114111 else 127)=hi):
  fk x y w=true↔(lo≤y∧x≤hi∧x≤y∧lo≤hi)∧((lo<55296∧x<55296)∨(hi>57343∧y>57343)):=by
 unfold fk
 rw[Oz,oK,decide_eq_true_iff]
 omega
def Rg (c lw i r q:Int):Prop:=
 (i=1∧r=ez c∧((lw=1∧q=1)∨(lw=2∧q=64)∨(lw=3∧q=4096)∨(lw=4∧q=262144)))∨
 (i=2∧((lw=2∧q=1)∨(lw=3∧q=64∧32≤r∧r≤1023∧(r<864∨896≤r))∨(lw=4∧q=4096∧16≤r∧r≤271)))∨
 (i=3∧((lw=3∧q=1)∨(lw=4∧q=64∧1024≤r∧r≤17407)))∨(i=4∧lw=4∧q=1)
theorem Ve {c lw i r q b:Int} (hc:0≤c∧c<256) (hu:eS c=lw) (hl:c8 c=lw) (h:Rg c lw i r q) (hi:i<lw) (hb:128≤b∧b≤191):
  ∃q',q.tdiv 64=q'∧(0≤r∧r≤20000)∧(1≤q'∧q'≤262144)∧(0≤(r*64+b-128)*q'∧(r*64+b-128)*q'≤1000000000)∧
   (fk ((r*64+b-128)*q') ((r*64+b-128)*q'+q'-1) lw=true↔(i=1→kr c≤b∧b≤ku c))∧
   (fk ((r*64+b-128)*q') ((r*64+b-128)*q'+q'-1) lw=true→Rg c lw (i+1) (r*64+b-128) q'):=by
 have dH:=v3 c hc
 have e0:kr c=if c<194∨c>244 then 0 else if c=224 then 160 else if c=240 then 144 else 128:=rfl
 have e1:ku c=if c<194∨c>244 then 0 else if c=237 then 159 else if c=244 then 143 else 191:=rfl
 have e2:eS c=if c<128 then 1 else if c<194∨c>244 then 0 else if c<224 then 2 else if c<240 then 3 else 4:=rfl
 rcases h with ⟨rfl,rfl,h | h | h | h⟩ | ⟨rfl,h | h | h⟩ | ⟨rfl,h | h⟩ | ⟨rfl,h⟩
 ·omega
 ·obtain⟨rfl,rfl⟩:=h
  refine⟨1,rfl,by omega,by omega,by omega,?_,fun _=>.inr (.inl ⟨rfl,.inl ⟨rfl,rfl⟩⟩)⟩
  rw[fI _ _ _ (lo:=128) (hi:=2047) rfl rfl]
  constructor
  ·intro _ _;omega
  ·intro h;have:=h rfl;omega
 ·obtain⟨rfl,rfl⟩:=h
  refine⟨64,rfl,by omega,by omega,by omega,?_,fun hh=>?_⟩
  ·rw[fI _ _ _ (lo:=2048) (hi:=65535) rfl rfl]
   constructor
   ·intro h1 _;omega
   ·intro h;have:=h rfl;omega
  ·rw[fI _ _ _ (lo:=2048) (hi:=65535) rfl rfl] at hh
   exact .inr (.inl ⟨rfl,.inr (.inl ⟨rfl,rfl,by omega,by omega,by omega⟩)⟩)
 ·obtain⟨rfl,rfl⟩:=h
  refine⟨4096,rfl,by omega,by omega,by omega,?_,fun hh=>?_⟩
  ·rw[fI _ _ _ (lo:=65536) (hi:=1114111) rfl rfl]
   constructor
   ·intro h1 _;omega
   ·intro h;have:=h rfl;omega
  ·rw[fI _ _ _ (lo:=65536) (hi:=1114111) rfl rfl] at hh
   exact .inr (.inl ⟨rfl,.inr (.inr ⟨rfl,rfl,by omega,by omega⟩)⟩)
 ·omega
 ·obtain⟨rfl,rfl,h1,h2,h3⟩:=h
  refine⟨1,rfl,by omega,by omega,by omega,?_,fun _=>.inr (.inr (.inl ⟨rfl,.inl ⟨rfl,rfl⟩⟩))⟩
  rw[fI _ _ _ (lo:=2048) (hi:=65535) rfl rfl]
  exact⟨fun _ h=>by omega,fun _=>by omega⟩
 ·obtain⟨rfl,rfl,h1,h2⟩:=h
  refine⟨64,rfl,by omega,by omega,by omega,?_,fun _=>.inr (.inr (.inl ⟨rfl,.inr ⟨rfl,rfl,by omega,by omega⟩⟩))⟩
  rw[fI _ _ _ (lo:=65536) (hi:=1114111) rfl rfl]
  exact⟨fun _ h=>by omega,fun _=>by omega⟩
 ·omega
 ·obtain⟨rfl,rfl,h1,h2⟩:=h
  refine⟨1,rfl,by omega,by omega,by omega,?_,fun _=>.inr (.inr (.inr ⟨rfl,rfl,rfl⟩))⟩
  rw[fI _ _ _ (lo:=65536) (hi:=1114111) rfl rfl]
  exact⟨fun _ h=>by omega,fun _=>by omega⟩
 ·omega
theorem QT {c q:Int} (hc:0≤c∧c<256) (h0:c8 c≠0) (hq:(c8 c=1∧q=1)∨(c8 c=2∧q=64)∨(c8 c=3∧q=4096)∨(c8 c=4∧q=262144)):
  (0≤ez c*q∧ez c*q≤100000000∧1≤q∧q≤262144)∧(fk (ez c*q) (ez c*q+q-1) (c8 c)=true→eS c=c8 c∧Rg c (c8 c) 1 (ez c) q)∧(fk (ez c*q) (ez c*q+q-1) (c8 c)=false→eS c=0):=by
 have dH:=v3 c hc
 have e2:eS c=if c<128 then 1 else if c<194∨c>244 then 0 else if c<224 then 2 else if c<240 then 3 else 4:=rfl
 rcases hq with ⟨h,rfl⟩ | ⟨h,rfl⟩ | ⟨h,rfl⟩ | ⟨h,rfl⟩
 ·have key:=fI (ez c*1) (ez c*1+1-1) (c8 c) (lo:=0) (hi:=127) (by rw[h];rfl) (by rw[h];rfl)
  refine⟨by omega,fun _=>⟨by omega,.inl ⟨rfl,rfl,.inl ⟨h,rfl⟩⟩⟩,fun hf=>?_⟩
  rw[Bool.eq_false_iff,ne_eq,key] at hf;omega
 ·have key:=fI (ez c*64) (ez c*64+64-1) (c8 c) (lo:=128) (hi:=2047) (by rw[h];rfl) (by rw[h];rfl)
  refine⟨by omega,fun hh=>⟨?_,.inl ⟨rfl,rfl,.inr (.inl ⟨h,rfl⟩)⟩⟩,fun hf=>?_⟩
  ·rw[key] at hh;omega
  ·rw[Bool.eq_false_iff,ne_eq,key] at hf;omega
 ·have key:=fI (ez c*4096) (ez c*4096+4096-1) (c8 c) (lo:=2048) (hi:=65535) (by rw[h];rfl) (by rw[h];rfl)
  refine⟨by omega,fun hh=>⟨?_,.inl ⟨rfl,rfl,.inr (.inr (.inl ⟨h,rfl⟩))⟩⟩,fun hf=>?_⟩
  ·omega
  ·rw[Bool.eq_false_iff,ne_eq,key] at hf;omega
 ·have key:=fI (ez c*262144) (ez c*262144+262144-1) (c8 c) (lo:=65536) (hi:=1114111) (by rw[h];rfl) (by rw[h];rfl)
  refine⟨by omega,fun hh=>⟨?_,.inl ⟨rfl,rfl,.inr (.inr (.inr ⟨h,rfl⟩))⟩⟩,fun hf=>?_⟩
  ·rw[key] at hh;omega
  ·rw[Bool.eq_false_iff,ne_eq,key] at hf;omega
section
variable [Env] {vs:List V} {σ:St} {k:ah}
theorem Vf (h:Qn vs σ k):ag Tryz.prog 274 vs k σ:=by
 unfold Qn at h
 split at h
 ·rename_i c
  refine ag.cj (v:=.tuple [.int .i64 (c8 c),.int .i64 (ez c)]) (av (Go.Ev.Clean.int _ _) aM) (.tuple (bN (.int _ _) (bN (.int _ _) gn))) (F274.flat (live:=HW) (call:=TX) (n₀:=0) (σ:=Go.Ev.start) (fun h=>Oy h) rfl (by kernel_rfl) ?_) h
  have fin:∀a b:Int,c8 c=a→ez c=b→(V.tuple [.int .i64 a,.int .i64 b]=.tuple [.int .i64 (c8 c),.int .i64 (ez c)]):=fun a b h1 h2=>by rw[h1,h2]
  rw[afM];unfold Om
  unfold c8 ez at fin⊢
  refine⟨rfl,aq (fun h1=>?_) fun h1=>⟨rfl,aq (fun h2=>⟨rfl,aq (fun h3=>?_) fun h3=>⟨rfl,aq (fun h4=>⟨rfl,aq (fun h5=>?_) fun h5=>⟨rfl,aq (fun h6=>⟨rfl,aq (fun h7=>?_) fun h7=>?_⟩) fun h6=>?_⟩⟩) fun h4=>⟨rfl,aq (fun h6=>⟨rfl,aq (fun h7=>?_) fun h7=>?_⟩) fun h6=>?_⟩⟩⟩)
   fun h2=>⟨rfl,aq (fun h4=>⟨rfl,aq (fun h5=>?_) fun h5=>⟨rfl,aq (fun h6=>⟨rfl,aq (fun h7=>?_) fun h7=>?_⟩) fun h6=>?_⟩⟩) fun h4=>⟨rfl,aq (fun h6=>⟨rfl,aq (fun h7=>?_) fun h7=>?_⟩) fun h6=>?_⟩⟩⟩⟩
  all_goals (first | rw[i64_in _ (by omega)] | skip)
  all_goals (refine fin _ _ ?_ ?_<;>((repeat' split)<;>omega))
 ·exact h.elim
theorem OA:∀ {f:FuncId} {vs:List V} {σ:St} {k:ah},TY f vs σ k→ag Tryz.prog f vs k σ:=fun h=>aH Vf Oy h
theorem Vg (h:Qo vs σ k):ag Tryz.prog 275 vs k σ:=by
 unfold Qo at h
 split at h
 ·rename_i x y w
  refine ag.cj (v:=.bool (fk x y w)) (av (Go.Ev.Clean.int _ _) (av (Go.Ev.Clean.int _ _) (av (Go.Ev.Clean.int _ _) aM))) (.bool _) (F275.flat (live:=HX) (call:=TY) (n₀:=0) (σ:=Go.Ev.start) (fun h=>OA h) rfl (by kernel_rfl) ?_) h
  have T:∀ {lo hi:Int},(if w=2 then(128:Int) else if w=3 then 2048 else if w=4 then 65536 else 0)=lo→(if w=2 then(2047:Int) else if w=3 then 65535 else if w=4 then 1114111 else 127)=hi→
    ((IntKind.i64=.i64)∧aa (decide ((if lo>x then lo else x)>(if hi<y then hi else y))) (V.bool false=.bool (fk x y w)) ((IntKind.i64=.i64)∧aa (decide ((if lo>x then lo else x)<(55296:Int))) (V.bool true=.bool (fk x y w)) ((IntKind.i64=.i64)∧aa (decide ((if hi<y then hi else y)>(57343:Int))) (V.bool true=.bool (fk x y w)) (V.bool false=.bool (fk x y w))))):=by
   intro lo hi h1 h2
   have e:fk x y w=decide (¬((if lo>x then lo else x)>(if hi<y then hi else y))∧((if lo>x then lo else x)<(55296:Int)∨(if hi<y then hi else y)>(57343:Int))):=by
    unfold fk;rw[h1,h2]
   rw[e]
   refine⟨rfl,aq (fun h=>?_) fun h=>⟨rfl,aq (fun h'=>?_) fun h'=>⟨rfl,aq (fun xm=>?_) fun xm=>?_⟩⟩⟩
   ·rw[decide_eq_false fun hh=>hh.1 h]
   ·rw[decide_eq_true ⟨h,.inl h'⟩]
   ·rw[decide_eq_true ⟨h,.inr xm⟩]
   ·rw[decide_eq_false fun hh=>by rcases hh.2 with h1 | h1<;>contradiction]
  rw[E3];unfold zD
  refine⟨rfl,aq (fun h1=>⟨rfl,aq (fun h2=>?_) fun h2=>⟨rfl,aq (fun h3=>?_) fun h3=>?_⟩⟩) fun h1=>⟨rfl,aq (fun h2=>⟨rfl,aq (fun h3=>?_) fun h3=>?_⟩) fun h2=>⟨rfl,aq (fun h3=>?_) fun h3=>?_⟩⟩⟩
  ·omega
  ·omega
  ·exact T (by rw[if_pos h1]) (by rw[if_pos h1])
  ·omega
  ·exact T (by rw[if_neg h1,if_pos h2]) (by rw[if_neg h1,if_pos h2])
  ·exact T (by rw[if_neg h1,if_neg h2,if_pos h3]) (by rw[if_neg h1,if_neg h2,if_pos h3])
  ·exact T (by rw[if_neg h1,if_neg h2,if_neg h3]) (by rw[if_neg h1,if_neg h2,if_neg h3])
 ·exact h.elim
theorem OB:∀ {f:FuncId} {vs:List V} {σ:St} {k:ah},HY f vs σ k→ag Tryz.prog f vs k σ:=fun h=>aH Vg OA h
end
end Go.Proofs.YtbajncpfmemdgaaGreatDoor
end
