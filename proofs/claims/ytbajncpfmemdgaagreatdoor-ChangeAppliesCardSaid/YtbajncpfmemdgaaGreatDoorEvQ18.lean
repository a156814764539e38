/- Proved: parts of the way: BEq12, BC2, BC3, BEq13, BEq14. -/
import Derived.Test.YtbajncpfmemdgaaGreatDoorEvQ17
set_option linter.unusedVariables false
set_option linter.unusedSimpArgs false
section
namespace Go.Proofs.YtbajncpfmemdgaaGreatDoor
open Go Go.Ev
def xl (n:Int):Int:=if Flt.pH n.natAbs then((FloatKind.nearest .f64 n:Nat):Int) else 0
def pI (n:Int):Bool:=decide (Flt.pH n.natAbs)
noncomputable def ja (s:List UInt8):Nat→Int
 | 0=>0
 | n+1=>ja s n*256%18446744073709551616+av s n
def nZ (b:Int):Prop:=0≤b∧b<18446744073709551616
noncomputable def iL (b:Int):Int:=@dite _ (∃x,Flt.TI b.toNat x) (Classical.propDecidable _) (fun h=>Classical.choose h) fun _=>0
noncomputable def qA (b:Int):Bool:=@decide (∃x,Flt.TI b.toNat x) (Classical.propDecidable _)
def It:Nat→List Nat:=(fun _=>[])
theorem agD [Env] (A:Nat→List SV→Prop) (Q:V→Prop) (b:Nat):WE Tryz.prog 277 Tryz.f277 Lk 0 It A (fun v _=>Q v) [.dQ .f64 b] Go.Ev.start=
  (((FloatKind.f64.decode b).isNaN=false∧Q (.dQ .f64 (iV b)))):=by kernel_rfl
def Qx [Env] (vs:List V) (σ:St) (k:ai):Prop:=
 match vs with
 | [.dQ .f64 b]=>(FloatKind.f64.decode b).isNaN=false∧k (.dQ .f64 (iV b)) σ
 | _=>False
def Lp [Env]:=kS 277 Qx Lk
def Iu:Nat→List Nat:=(fun _=>[])
theorem agE [Env] (A:Nat→List SV→Prop) (Q:V→Prop) (n:Int):WE Tryz.prog 267 Tryz.f267 Lp 0 Iu A (fun v _=>Q v) [.int .i64 n] Go.Ev.start=
  (aa (yJ (FloatKind.nearest .f64 n) (4890909195324358656:Nat)) (Q (.tuple [.int .u64 (0:Int),.bool false])) ((BP (FloatKind.nearest .f64 n) .i64∧((.i64:IntKind)=.i64∧aa (decide ((oh (FloatKind.nearest .f64 n))≠n)) (Q (.tuple [.int .u64 (0:Int),.bool false])) (Q (.tuple [.int .u64 (((FloatKind.nearest .f64 n:Nat):Int)),.bool true])))))):=by kernel_rfl
def Qy [Env] (vs:List V) (σ:St) (k:ai):Prop:=
 match vs with
 | [.int .i64 n]=>dL n∧k (.tuple [.int .u64 (xl n),.bool (pI n)]) σ
 | _=>False
def EJ [Env]:=kS 267 Qy Lp
def AM:Nat→List Nat:=(fun i=>match i with | 0=>[4,5,6,7] | _=>[])
theorem agF [Env] (A:Nat→List SV→Prop) (Q:V→Prop) (n:Int):WE Tryz.prog 240 Tryz.f240 EJ 0 AM A (fun v _=>Q v) [.int .i64 n] Go.Ev.start=
  (((.i64:IntKind)=.i64∧aa (decide (n=(0:Int))) (Q (.tuple [.int .u64 (0:Int),.bool true])) (((.i64:IntKind)=.i64∧aa (decide (n<(0:Int))) (A 0 [.val (.int .u64 (9223372036854775808:Int)),.val (.int .u64 (IntKind.u64.wrap ((0:Int)-(IntKind.u64.wrap n)))),.val (.int .i64 (0:Int)),.val (.int .i64 (0:Int))]) (A 0 [.val (.int .u64 (0:Int)),.val (.int .u64 (IntKind.u64.wrap n)),.val (.int .i64 (0:Int)),.val (.int .i64 (0:Int))]))))):=by kernel_rfl
theorem agG [Env] (A:Nat→List SV→Prop) (Q:V→Prop) (s m t i:Int):WL Tryz.prog 240 Tryz.f240 EJ 0 AM A (fun v _=>Q v) 0 [.val (.int .u64 s),.val (.int .u64 m),.val (.int .i64 t),.val (.int .i64 i)]=
  (((.i64:IntKind)=.i64∧aa (decide (i<(64:Int))) ((0≤(IntKind.u64.wrap i)∧((.u64:IntKind)=.u64∧aa (decide ((IntKind.u64.wrap (BitVec.ofInt IntKind.u64.bits (m.fdiv (2^min (IntKind.u64.wrap i).toNat IntKind.u64.bits))&&& BitVec.ofInt IntKind.u64.bits (1:Int)).toNat)=(1:Int))) (A 0 [.val (.int .u64 s),.val (.int .u64 m),.val (.int .i64 i),.val (.int .i64 (IntKind.i64.wrap (i+(1:Int))))]) (A 0 [.val (.int .u64 s),.val (.int .u64 m),.val (.int .i64 t),.val (.int .i64 (IntKind.i64.wrap (i+(1:Int))))])))) (((.i64:IntKind)=.i64∧aa (decide (t>(52:Int))) ((0≤(IntKind.u64.wrap (IntKind.i64.wrap (t-(52:Int))))∧((.u64:IntKind)=.u64∧aa (decide ((IntKind.u64.wrap (BitVec.ofInt IntKind.u64.bits m&&& BitVec.ofInt IntKind.u64.bits (IntKind.u64.wrap ((IntKind.u64.wrap ((1:Int)*2^min (IntKind.u64.wrap (IntKind.i64.wrap (t-(52:Int)))).toNat IntKind.u64.bits))-(1:Int)))).toNat)≠(0:Int))) (Q (.tuple [.int .u64 (0:Int),.bool false])) ((0≤(IntKind.u64.wrap (IntKind.i64.wrap (t-(52:Int))))∧(0≤(52:Int)∧Q (.tuple [.int .u64 (IntKind.u64.wrap (BitVec.ofInt IntKind.u64.bits (IntKind.u64.wrap (BitVec.ofInt IntKind.u64.bits s||| BitVec.ofInt IntKind.u64.bits (IntKind.u64.wrap ((IntKind.u64.wrap (IntKind.i64.wrap (t+(1023:Int))))*2^min (52:Int).toNat IntKind.u64.bits))).toNat)||| BitVec.ofInt IntKind.u64.bits (IntKind.u64.wrap (BitVec.ofInt IntKind.u64.bits (m.fdiv (2^min (IntKind.u64.wrap (IntKind.i64.wrap (t-(52:Int)))).toNat IntKind.u64.bits))&&& BitVec.ofInt IntKind.u64.bits (4503599627370495:Int)).toNat)).toNat),.bool true]))))))) ((0≤(IntKind.u64.wrap (IntKind.i64.wrap ((52:Int)-t)))∧(0≤(52:Int)∧Q (.tuple [.int .u64 (IntKind.u64.wrap (BitVec.ofInt IntKind.u64.bits (IntKind.u64.wrap (BitVec.ofInt IntKind.u64.bits s||| BitVec.ofInt IntKind.u64.bits (IntKind.u64.wrap ((IntKind.u64.wrap (IntKind.i64.wrap (t+(1023:Int))))*2^min (52:Int).toNat IntKind.u64.bits))).toNat)||| BitVec.ofInt IntKind.u64.bits (IntKind.u64.wrap (BitVec.ofInt IntKind.u64.bits (IntKind.u64.wrap (m*2^min (IntKind.u64.wrap (IntKind.i64.wrap ((52:Int)-t))).toNat IntKind.u64.bits))&&& BitVec.ofInt IntKind.u64.bits (4503599627370495:Int)).toNat)).toNat),.bool true])))))))):=by kernel_rfl
def Qz [Env] (vs:List V) (σ:St) (k:ai):Prop:=
 match vs with
 | [.int .i64 n]=>dL n∧k (.tuple [.int .u64 (xl n),.bool (pI n)]) σ
 | _=>False
def Lq [Env]:=kS 240 Qz EJ
def Iv:Nat→List Nat:=(fun _=>[])
theorem agH [Env] (A:Nat→List SV→Prop) (Q:V→Prop) (b:Int):WE Tryz.prog 270 Tryz.f270 Lq 0 Iv A (fun v _=>Q v) [.int .u64 b] Go.Ev.start=
  (aa (FloatKind.f64.format.order b.toNat b.toNat != some .eq) (Q (.tuple [.int .i64 (0:Int),.bool false])) (aa (BL b.toNat (14114281232179134464:Nat)) (Q (.tuple [.int .i64 (0:Int),.bool false])) (aa (yJ b.toNat (4890909195324358656:Nat)) (Q (.tuple [.int .i64 (0:Int),.bool false])) (((FloatKind.f64.decode b.toNat).isNaN=false∧aa (FloatKind.f64.format.order b.toNat (iV b.toNat) != some .eq) (Q (.tuple [.int .i64 (0:Int),.bool false])) ((BP b.toNat .i64∧Q (.tuple [.int .i64 (oh b.toNat),.bool true])))))))):=by kernel_rfl
def QA [Env] (vs:List V) (σ:St) (k:ai):Prop:=
 match vs with
 | [.int .u64 b]=>nZ b∧k (.tuple [.int .i64 (iL b),.bool (qA b)]) σ
 | _=>False
def Lr [Env]:=kS 270 QA Lq
def Iw:Nat→List Nat:=(fun _=>[])
theorem agI [Env] (A:Nat→List SV→Prop) (Q:V→Prop) (b:Int):WE Tryz.prog 243 Tryz.f243 Lr 0 Iw A (fun v _=>Q v) [.int .u64 b] Go.Ev.start=
  (((0≤b∧b<18446744073709551616)∧((.i64:IntKind)=.i64∧aa (decide ((lA b)=(3:Int))) (Q (.tuple [.int .i64 (0:Int),.bool true])) (((.i64:IntKind)=.i64∧aa (decide ((lA b)≠(5:Int))) (Q (.tuple [.int .i64 (0:Int),.bool false])) (((0≤b∧b<18446744073709551616)∧((0≤b∧b<18446744073709551616)∧((.i64:IntKind)=.i64∧aa (decide ((IntKind.i64.wrap ((IntKind.i64.wrap ((dT b)-(1023:Int)))-(52:Int)))<(-52:Int))) (Q (.tuple [.int .i64 (0:Int),.bool false])) (((.i64:IntKind)=.i64∧aa (decide ((IntKind.i64.wrap ((IntKind.i64.wrap ((dT b)-(1023:Int)))-(52:Int)))>(11:Int))) (Q (.tuple [.int .i64 (0:Int),.bool false])) (((.i64:IntKind)=.i64∧aa (decide ((IntKind.i64.wrap ((IntKind.i64.wrap ((dT b)-(1023:Int)))-(52:Int)))<(0:Int))) ((0≤(IntKind.u64.wrap (IntKind.i64.wrap ((0:Int)-(IntKind.i64.wrap ((IntKind.i64.wrap ((dT b)-(1023:Int)))-(52:Int))))))∧((.u64:IntKind)=.u64∧aa (decide ((IntKind.u64.wrap (BitVec.ofInt IntKind.u64.bits (IntKind.u64.wrap (BitVec.ofInt IntKind.u64.bits (gk b)||| BitVec.ofInt IntKind.u64.bits (4503599627370496:Int)).toNat)&&& BitVec.ofInt IntKind.u64.bits (IntKind.u64.wrap ((IntKind.u64.wrap ((1:Int)*2^min (IntKind.u64.wrap (IntKind.i64.wrap ((0:Int)-(IntKind.i64.wrap ((IntKind.i64.wrap ((dT b)-(1023:Int)))-(52:Int)))))).toNat IntKind.u64.bits))-(1:Int)))).toNat)≠(0:Int))) (Q (.tuple [.int .i64 (0:Int),.bool false])) ((0≤(IntKind.u64.wrap (IntKind.i64.wrap ((0:Int)-(IntKind.i64.wrap ((IntKind.i64.wrap ((dT b)-(1023:Int)))-(52:Int))))))∧(0≤(63:Int)∧((.u64:IntKind)=.u64∧aa (decide ((b.fdiv (2^min (63:Int).toNat IntKind.u64.bits))=(1:Int))) (((.u64:IntKind)=.u64∧aa (decide (((IntKind.u64.wrap (BitVec.ofInt IntKind.u64.bits (gk b)||| BitVec.ofInt IntKind.u64.bits (4503599627370496:Int)).toNat).fdiv (2^min (IntKind.u64.wrap (IntKind.i64.wrap ((0:Int)-(IntKind.i64.wrap ((IntKind.i64.wrap ((dT b)-(1023:Int)))-(52:Int)))))).toNat IntKind.u64.bits))>(9223372036854775808:Int))) (Q (.tuple [.int .i64 (0:Int),.bool false])) (Q (.tuple [.int .i64 (IntKind.i64.wrap (IntKind.u64.wrap ((0:Int)-((IntKind.u64.wrap (BitVec.ofInt IntKind.u64.bits (gk b)||| BitVec.ofInt IntKind.u64.bits (4503599627370496:Int)).toNat).fdiv (2^min (IntKind.u64.wrap (IntKind.i64.wrap ((0:Int)-(IntKind.i64.wrap ((IntKind.i64.wrap ((dT b)-(1023:Int)))-(52:Int)))))).toNat IntKind.u64.bits))))),.bool true])))) (((.u64:IntKind)=.u64∧aa (decide (((IntKind.u64.wrap (BitVec.ofInt IntKind.u64.bits (gk b)||| BitVec.ofInt IntKind.u64.bits (4503599627370496:Int)).toNat).fdiv (2^min (IntKind.u64.wrap (IntKind.i64.wrap ((0:Int)-(IntKind.i64.wrap ((IntKind.i64.wrap ((dT b)-(1023:Int)))-(52:Int)))))).toNat IntKind.u64.bits))>(9223372036854775807:Int))) (Q (.tuple [.int .i64 (0:Int),.bool false])) (Q (.tuple [.int .i64 (IntKind.i64.wrap ((IntKind.u64.wrap (BitVec.ofInt IntKind.u64.bits (gk b)||| BitVec.ofInt IntKind.u64.bits (4503599627370496:Int)).toNat).fdiv (2^min (IntKind.u64.wrap (IntKind.i64.wrap ((0:Int)-(IntKind.i64.wrap ((IntKind.i64.wrap ((dT b)-(1023:Int)))-(52:Int)))))).toNat IntKind.u64.bits))),.bool true]))))))))))) ((0≤(IntKind.u64.wrap (IntKind.i64.wrap ((IntKind.i64.wrap ((dT b)-(1023:Int)))-(52:Int))))∧(0≤(63:Int)∧((.u64:IntKind)=.u64∧aa (decide ((b.fdiv (2^min (63:Int).toNat IntKind.u64.bits))=(1:Int))) (((.u64:IntKind)=.u64∧aa (decide ((IntKind.u64.wrap ((IntKind.u64.wrap (BitVec.ofInt IntKind.u64.bits (gk b)||| BitVec.ofInt IntKind.u64.bits (4503599627370496:Int)).toNat)*2^min (IntKind.u64.wrap (IntKind.i64.wrap ((IntKind.i64.wrap ((dT b)-(1023:Int)))-(52:Int)))).toNat IntKind.u64.bits))>(9223372036854775808:Int))) (Q (.tuple [.int .i64 (0:Int),.bool false])) (Q (.tuple [.int .i64 (IntKind.i64.wrap (IntKind.u64.wrap ((0:Int)-(IntKind.u64.wrap ((IntKind.u64.wrap (BitVec.ofInt IntKind.u64.bits (gk b)||| BitVec.ofInt IntKind.u64.bits (4503599627370496:Int)).toNat)*2^min (IntKind.u64.wrap (IntKind.i64.wrap ((IntKind.i64.wrap ((dT b)-(1023:Int)))-(52:Int)))).toNat IntKind.u64.bits))))),.bool true])))) (((.u64:IntKind)=.u64∧aa (decide ((IntKind.u64.wrap ((IntKind.u64.wrap (BitVec.ofInt IntKind.u64.bits (gk b)||| BitVec.ofInt IntKind.u64.bits (4503599627370496:Int)).toNat)*2^min (IntKind.u64.wrap (IntKind.i64.wrap ((IntKind.i64.wrap ((dT b)-(1023:Int)))-(52:Int)))).toNat IntKind.u64.bits))>(9223372036854775807:Int))) (Q (.tuple [.int .i64 (0:Int),.bool false])) (Q (.tuple [.int .i64 (IntKind.i64.wrap (IntKind.u64.wrap ((IntKind.u64.wrap (BitVec.ofInt IntKind.u64.bits (gk b)||| BitVec.ofInt IntKind.u64.bits (4503599627370496:Int)).toNat)*2^min (IntKind.u64.wrap (IntKind.i64.wrap ((IntKind.i64.wrap ((dT b)-(1023:Int)))-(52:Int)))).toNat IntKind.u64.bits))),.bool true]))))))))))))))))))))):=by kernel_rfl
def QB [Env] (vs:List V) (σ:St) (k:ai):Prop:=
 match vs with
 | [.int .u64 b]=>nZ b∧k (.tuple [.int .i64 (iL b),.bool (qA b)]) σ
 | _=>False
def Ls [Env]:=kS 243 QB Lr
end Go.Proofs.YtbajncpfmemdgaaGreatDoor
end
section
namespace Go.Proofs.YtbajncpfmemdgaaGreatDoor
open Go Go.Ev Go.IntWalk Go.Ev.Flt
open Ieee (double signed)
theorem F277:bc Tryz.prog 277 Tryz.f277:=.of (by kernel_rfl) (by kernel_rfl)
theorem F267:bc Tryz.prog 267 Tryz.f267:=.of (by kernel_rfl) (by kernel_rfl)
theorem F240:bc Tryz.prog 240 Tryz.f240:=.of (by kernel_rfl) (by kernel_rfl)
theorem F270:bc Tryz.prog 270 Tryz.f270:=.of (by kernel_rfl) (by kernel_rfl)
theorem F243:bc Tryz.prog 243 Tryz.f243:=.of (by kernel_rfl) (by kernel_rfl)
theorem CI (x k:Nat) (hk:k≤64):((x:Nat):Int).fdiv (2^min (((k:Nat):Int)).toNat IntKind.u64.bits)=((x/2^k:Nat):Int):=by
 rw[cA,show min k IntKind.u64.bits=k from Nat.min_eq_left hk,Int.fdiv_eq_ediv_of_nonneg _ (by exact Int.le_of_lt (Int.pow_pos (by decide)))]
 rw[Int.natCast_ediv,Int.natCast_pow];rfl
theorem AN (x k:Nat) (hk:k≤64):IntKind.u64.wrap (((x:Nat):Int)*2^min (((k:Nat):Int)).toNat IntKind.u64.bits)=((x*2^k%18446744073709551616:Nat):Int):=by
 rw[cA,show min k IntKind.u64.bits=k from Nat.min_eq_left hk,wrap_u64,Int.natCast_emod,Int.natCast_mul,Int.natCast_pow];rfl
theorem Tx {x:Nat} (hx:x<18446744073709551616):(BitVec.ofInt IntKind.u64.bits ((x:Nat):Int)).toNat=x:=by
 rw[show IntKind.u64.bits=64 from rfl,BitVec.toNat_ofInt]
 show(((x:Nat):Int)%(18446744073709551616:Nat)).toNat=x
 omega
theorem Lt {x y:Nat} (hx:x<18446744073709551616) (hy:y<18446744073709551616):IntKind.u64.wrap (BitVec.ofInt IntKind.u64.bits ((x:Nat):Int)&&& BitVec.ofInt IntKind.u64.bits ((y:Nat):Int)).toNat=((x&&& y:Nat):Int):=by
 rw[BitVec.toNat_and,Tx hx,Tx hy,wrap_u64]
 have:x&&& y≤x:=Nat.and_le_left
 omega
theorem Ix {x y:Nat} (hx:x<18446744073709551616) (hy:y<18446744073709551616):IntKind.u64.wrap (BitVec.ofInt IntKind.u64.bits ((x:Nat):Int)||| BitVec.ofInt IntKind.u64.bits ((y:Nat):Int)).toNat=((x||| y:Nat):Int):=by
 rw[BitVec.toNat_or,Tx hx,Tx hy,wrap_u64]
 have:x||| y<2^64:=Nat.or_lt_two_pow hx hy
 omega
theorem Ty {x k:Nat} (hk:k≤63) (hx:x<18446744073709551616):IntKind.u64.wrap (BitVec.ofInt IntKind.u64.bits ((x:Nat):Int)&&& BitVec.ofInt IntKind.u64.bits (IntKind.u64.wrap ((IntKind.u64.wrap ((1:Int)*2^min (((k:Nat):Int)).toNat IntKind.u64.bits))-(1:Int)))).toNat=((x%2^k:Nat):Int):=by
 have h:=AN 1 k (by omega)
 have hp:=Nat.two_pow_pos k
 have hq:2^k≤2^63:=Nat.pow_le_pow_right (by decide) hk
 rw[show(((1:Nat):Nat):Int)=(1:Int) from rfl,Nat.one_mul,Nat.mod_eq_of_lt (by omega)] at h
 rw[h,wrap_u64 (((2^k:Nat):Int)-1),show(((2^k:Nat):Int)-1)%18446744073709551616=((2^k-1:Nat):Int) by omega,Lt hx (by omega),Nat.and_two_pow_sub_one_eq_mod]
theorem zk {k a b:Nat} (h:b<2^k):(2^k*a)||| b=2^k*a+b:=(Nat.two_pow_add_eq_or_of_lt h a).symm
def om (m:Nat):Nat→Nat
 | 0=>0
 | i+1=>if m/2^i%2=1 then i else om m i
theorem EK (m:Nat):∀i,om m i=(m%2^i).log2
 | 0=>by rw[Nat.pow_zero,Nat.mod_one];rfl
 | i+1=>by
  have hp:=Nat.two_pow_pos i
  have hm:m%2^(i+1)=m%2^i+2^i*(m/2^i%2):=by rw[Nat.pow_succ,Nat.mod_mul]
  unfold om
  split
  ·rename_i h
   rw[hm,h,Nat.mul_one]
   have:=Nat.mod_lt m hp
   refine((Nat.log2_eq_iff (by omega)).mpr ⟨by omega,?_⟩).symm
   rw[Nat.pow_succ];omega
  ·rename_i h
   rw[hm,show m/2^i%2=0 by omega,Nat.mul_zero,Nat.add_zero]
   exact EK m i
theorem Iy (m:Nat):∀i,om m i≤i
 | 0=>Nat.le_refl _
 | i+1=>by
  unfold om
  split
  ·omega
  ·exact Nat.le_succ_of_le (Iy m i)
theorem AO {n:Int} (h:dL n):n.natAbs≤9223372036854775808:=by have:=h.1;have:=h.2;omega
theorem Iz {n:Int}:signed (decide (n<0)) n.natAbs 0=n:=by
 rw[gQ]
 by_cases h:n<0
 ·rw[decide_eq_true h,if_pos rfl];omega
 ·rw[decide_eq_false h,if_neg Bool.false_ne_true];omega
theorem IA (n:Int):FloatKind.nearest .f64 n=double.nearest (decide (n<0)) n.natAbs 0:=rfl
theorem dK.dQ [Env] (k:FloatKind) (b:Nat):dK (.dQ k b):=fun _ _ _ h=>by cases h;exact .dQ _ _
theorem N7 {b x:Int} (h:TI b.toNat x):iL b=x∧qA b=true:=by
 have he:∃x,TI b.toNat x:=⟨x,h⟩
 constructor
 ·unfold iL
  rw[dif_pos he]
  exact(Classical.choose_spec he).N5 h
 ·unfold qA;exact @decide_eq_true _ (Classical.propDecidable _) he
theorem Tz {b:Int} (h:∀x,¬TI b.toNat x):iL b=0∧qA b=false:=by
 have he:¬ ∃x,TI b.toNat x:=fun⟨x,hx⟩=>h x hx
 constructor
 ·unfold iL;rw[dif_neg he]
 ·unfold qA;exact @decide_eq_false _ (Classical.propDecidable _) he
section
variable [Env] [aL] {vs:List V} {σ:St} {k:ai}
theorem Ve (h:Qx vs σ k):ag Tryz.prog 277 vs k σ:=by
 unfold Qx at h
 split at h
 ·rename_i b
  refine ag.cb (ar (Go.Ev.Clean.dQ _ _) aG) (dK.dQ _ _) (F277.flat (live:=It) (call:=Lk) (n₀:=0) (σ:=Go.Ev.start) (fun h=>Iq h) rfl (by kernel_rfl) ?_) h.2
  rw[agD]
  exact⟨h.1,rfl⟩
 ·exact h.elim
theorem IB:∀ {f:FuncId} {vs:List V} {σ:St} {k:ai},Lp f vs σ k→ag Tryz.prog f vs k σ:=fun h=>aD Ve Iq h
omit [Env] [aL] in
theorem QC {n:Int} (h:¬pH n.natAbs):V.tuple [.int .u64 (0:Int),.bool false]=.tuple [.int .u64 (xl n),.bool (pI n)]:=by
 unfold xl pI;rw[if_neg h,decide_eq_false h]
omit [Env] [aL] in
theorem CJ {n:Int} {x:Nat} (h:pH n.natAbs) (hx:FloatKind.nearest .f64 n=x):V.tuple [.int .u64 ((x:Nat):Int),.bool true]=.tuple [.int .u64 (xl n),.bool (pI n)]:=by
 unfold xl pI;rw[if_pos h,decide_eq_true h,hx]
theorem Vf (h:Qy vs σ k):ag Tryz.prog 267 vs k σ:=by
 unfold Qy at h
 split at h
 ·rename_i n
  obtain⟨hn,h⟩:=h
  refine ag.cb (ar (Go.Ev.Clean.int _ _) aG) (.tuple (bD (.int _ _) (bD (.bool _) gb))) (F267.flat (live:=Iu) (call:=Lp) (n₀:=0) (σ:=Go.Ev.start) (fun h=>IB h) rfl (by kernel_rfl) ?_) h
  rw[agE]
  have hm:=AO hn
  have hw:Wh (FloatKind.nearest .f64 n) (decide (n<0)) (nh n.natAbs):=by rw[IA];exact Ir _ (by omega)
  have hr:=Yr hm
  rw[hw.ge,hw.oh]
  refine aq (fun h1=>QC fun hf=>?_) fun h1=>⟨hw.BP ?_ (by omega),rfl,aq (fun h2=>QC fun hf=>?_) fun h2=>CJ ?_ rfl⟩
  ·rw[s8 hf,Iz] at h1;have:=hn.2;omega
  ·have:=(N6 (decide (n<0)) hr).1;omega
  ·rw[s8 hf,Iz] at h2;exact h2 rfl
  ·refine Classical.byContradiction fun hf=>Vd hf ?_
   have h2:signed (decide (n<0)) (nh n.natAbs) 0=n:=Classical.not_not.mp h2
   rw[gQ] at h2
   by_cases h0:n<0
   ·rw[decide_eq_true h0,if_pos rfl] at h2;omega
   ·rw[decide_eq_false h0,if_neg Bool.false_ne_true] at h2;omega
 ·exact h.elim
theorem IC:∀ {f:FuncId} {vs:List V} {σ:St} {k:ai},EJ f vs σ k→ag Tryz.prog f vs k σ:=fun h=>aD Vf IB h
def agJ (s:Int) (m:Nat):Nat→List SV→Prop
 | 0,ss=>∃i:Nat,i≤64∧ss=[.val (.int .u64 s),.val (.int .u64 ((m:Nat):Int)),.val (.int .i64 ((om m i:Nat):Int)),.val (.int .i64 ((i:Nat):Int))]
 | _,_=>False
omit [Env] [aL] in
theorem TA {n:Int} (h0:n≠0) (hn:dL n) {s:Nat} (hs:s=if n<0 then 9223372036854775808 else 0) {q:Nat} (hq:eT n.natAbs=q) (hq1:4503599627370496≤q) (hq2:q<9007199254740992):
  FloatKind.nearest .f64 n=(s||| (n.natAbs.log2+1023)*2^52%18446744073709551616)||| q%2^52:=by
 have hm:=AO hn
 have hl:n.natAbs.log2≤63:=EG (by omega)
 rw[IA,B4 _ (by omega) hl,hq,xO]
 generalize n.natAbs.log2=l at *
 rw[Nat.mod_eq_of_lt (by omega)]
 have e1:s||| (l+1023)*2^52=s+(l+1023)*2^52:=by
  subst hs
  split
  ·have:=zk (k:=63) (a:=1) (b:=(l+1023)*2^52) (by omega)
   rw[Nat.mul_one] at this;exact this
  ·rw[Nat.zero_or,Nat.zero_add]
 have e2:∃a,s+(l+1023)*2^52=2^52*a:=by
  subst hs
  split
  ·exact⟨2048+(l+1023),by omega⟩
  ·exact⟨l+1023,by omega⟩
 obtain⟨a,e2⟩:=e2
 rw[e1,e2,zk (by omega),←e2]
 subst hs
 by_cases h0:n<0
 ·rw[decide_eq_true h0,if_pos rfl,if_pos h0];omega
 ·rw[decide_eq_false h0,if_neg Bool.false_ne_true,if_neg h0];omega
omit [Env] [aL] in
theorem QD {m:Nat} (hl:¬m.log2≤52) (h:m%2^(m.log2-52)=0):eT m=m/2^(m.log2-52):=by
 have hp:=Nat.two_pow_pos (m.log2-52)
 unfold eT
 rw[if_neg hl,h,show(decide (2^(m.log2-52)<2*0)||((2^(m.log2-52)==2*0)&&(m/2^(m.log2-52)%2==1)))=false by
  rw[decide_eq_false (by omega),show(2^(m.log2-52)==2*0)=false by simp];rfl]
 rfl
theorem Vg (h:Qz vs σ k):ag Tryz.prog 240 vs k σ:=by
 unfold Qz at h
 split at h
 ·rename_i n
  obtain⟨hn,h⟩:=h
  have hm:=AO hn
  refine ag.cb (ar (Go.Ev.Clean.int _ _) aG) (.tuple (bD (.int _ _) (bD (.bool _) gb))) (F240.bV (live:=AM) (call:=EJ) (n₀:=0) (σ:=Go.Ev.start) (fun h=>IC h) rfl 1 (by kernel_rfl) Nat.lt_wfRel.wf (fun _ ss=>64-bF ss) (fun j ss=>n≠0∧agJ (((if n<0 then 9223372036854775808 else 0:Nat):Nat):Int) n.natAbs j ss) ?_ ?_ ?_) h
  ·intro k ss hI
   cases k with
   | zero=>obtain⟨_,i,_,rfl⟩:=hI;exact ay (ay (ay (ay bg)))
   | succ k=>exact hI.2.elim
  ·rw[agF]
   refine⟨rfl,aq (fun h1=>?_) fun h1=>⟨rfl,aq (fun h2=>⟨h1,0,by omega,?_⟩) fun h2=>⟨h1,0,by omega,?_⟩⟩⟩
   ·subst h1;exact CJ (x:=0) (by decide) rfl
   ·rw[if_pos h2,wrap_u64,wrap_u64,show(0-n%18446744073709551616)%18446744073709551616=((n.natAbs:Nat):Int) by have:=hn.1;omega];rfl
   ·rw[if_neg h2,wrap_u64,show n%18446744073709551616=((n.natAbs:Nat):Int) by have:=hn.2;omega];rfl
  ·intro k hk ss hI
   obtain rfl:k=0:=by omega
   obtain⟨h0,i,hi,rfl⟩:=hI
   rw[agG]
   have ht:=Iy n.natAbs i
   refine⟨rfl,aq (fun h1=>?_) fun h1=>?_⟩
   ·have e1:IntKind.u64.wrap ((i:Nat):Int)=((i:Nat):Int):=by rw[wrap_u64];omega
    rw[e1,CI _ _ (by omega),show(1:Int)=((1:Nat):Int) from rfl,Lt (Nat.lt_of_le_of_lt (Nat.div_le_self _ _) (by omega)) (by omega),Nat.and_one_is_mod]
    have e2:IntKind.i64.wrap (((i:Nat):Int)+((1:Nat):Int))=((i+1:Nat):Int):=by rw[i64_in _ (by omega)];omega
    rw[e2]
    refine⟨by omega,rfl,aq (fun h2=>⟨⟨h0,i+1,by omega,?_⟩,?_⟩) fun h2=>⟨⟨h0,i+1,by omega,?_⟩,?_⟩⟩
    ·rw[show om n.natAbs (i+1)=i by unfold om;rw[if_pos (by omega)]]
    ·show 64-(((i+1:Nat):Int)).toNat<64-(((i:Nat):Int)).toNat
     omega
    ·rw[show om n.natAbs (i+1)=om n.natAbs i by rw[om,if_neg (by omega)]]
    ·show 64-(((i+1:Nat):Int)).toNat<64-(((i:Nat):Int)).toNat
     omega
   ·obtain rfl:i=64:=by omega
    have hl:om n.natAbs 64=n.natAbs.log2:=by rw[EK,Nat.mod_eq_of_lt (by omega)]
    rw[hl] at ht⊢
    have akd:n.natAbs.log2≤63:=EG (by omega)
    have hk:=oV (m:=n.natAbs) (by omega)
    have e1:IntKind.u64.wrap (IntKind.i64.wrap (((n.natAbs.log2:Nat):Int)+(1023:Int)))=((n.natAbs.log2+1023:Nat):Int):=by rw[i64_in _ (by omega),wrap_u64];omega
    rw[e1]
    refine⟨rfl,aq (fun h2=>?_) fun h2=>?_⟩
    ·have e2:IntKind.u64.wrap (IntKind.i64.wrap (((n.natAbs.log2:Nat):Int)-(52:Int)))=((n.natAbs.log2-52:Nat):Int):=by rw[i64_in _ (by omega),wrap_u64];omega
     rw[e2,Ty (by omega) (by omega),CI _ _ (by omega)]
     refine⟨by omega,rfl,aq (fun h3=>QC ?_) fun h3=>⟨by omega,by omega,?_⟩⟩
     ·intro hf;exact h3 (by have:=hf.resolve_left (by omega);rw[this];rfl)
     ·have h3:n.natAbs%2^(n.natAbs.log2-52)=0:=by omega
      have hq:=QD (m:=n.natAbs) (by omega) h3
      have hfq:n.natAbs/2^(n.natAbs.log2-52)<9007199254740992:=by
       refine(Nat.div_lt_iff_lt_mul (Nat.two_pow_pos _)).mpr ?_
       rw[show(9007199254740992:Nat)=2^53 from rfl,←Nat.pow_add,show 53+(n.natAbs.log2-52)=n.natAbs.log2+1 by omega]
       exact Nat.lt_log2_self
      have e3:=AN (n.natAbs.log2+1023) 52 (by omega)
      rw[show((52:Nat):Int)=(52:Int) from rfl] at e3
      rw[e3,show(4503599627370495:Int)=((4503599627370495:Nat):Int) from rfl,Lt (by omega) (by omega),Ix (by split<;>omega) (by omega),show(4503599627370495:Nat)=2^52-1 from rfl,Nat.and_two_pow_sub_one_eq_mod,Ix ?_ (by omega)]
      ·exact CJ (.inr h3) (TA h0 hn rfl hq (by omega) hfq)
      ·exact Nat.or_lt_two_pow (n:=64) (by split<;>omega) (by omega)
    ·have e2:IntKind.u64.wrap (IntKind.i64.wrap ((52:Int)-((n.natAbs.log2:Nat):Int)))=((52-n.natAbs.log2:Nat):Int):=by rw[i64_in _ (by omega),wrap_u64];omega
     have hq:eT n.natAbs=n.natAbs*2^(52-n.natAbs.log2):=by unfold eT;rw[if_pos (by omega)]
     have TB:=hk.2.2 (by omega)
     rw[e2,AN _ _ (by omega),←hq,Nat.mod_eq_of_lt (by omega)]
     have e3:=AN (n.natAbs.log2+1023) 52 (by omega)
     rw[show((52:Nat):Int)=(52:Int) from rfl] at e3
     rw[e3,show(4503599627370495:Int)=((4503599627370495:Nat):Int) from rfl,Lt (by omega) (by omega),Ix (by split<;>omega) (by omega),show(4503599627370495:Nat)=2^52-1 from rfl,Nat.and_two_pow_sub_one_eq_mod,Ix ?_ (by omega)]
     ·exact⟨by omega,by omega,CJ (.inl (by omega)) (TA h0 hn rfl rfl hk.1 TB)⟩
     ·exact Nat.or_lt_two_pow (n:=64) (by split<;>omega) (by omega)
 ·exact h.elim
theorem ID:∀ {f:FuncId} {vs:List V} {σ:St} {k:ai},Lq f vs σ k→ag Tryz.prog f vs k σ:=fun h=>aD Vg IC h
end
end Go.Proofs.YtbajncpfmemdgaaGreatDoor
end
section
set_option exponentiation.threshold 3000
namespace Go.Proofs.YtbajncpfmemdgaaGreatDoor
open Go Go.Ev Go.IntWalk Go.Ev.Flt
open Ieee (double signed Datum)
theorem vr {b:Int} (h:∀x,¬TI b.toNat x):V.tuple [.int .i64 (0:Int),.bool false]=.tuple [.int .i64 (iL b),.bool (qA b)]:=by rw[(Tz h).1,(Tz h).2]
theorem TC {b x:Int} (h:TI b.toNat x):V.tuple [.int .i64 x,.bool true]=.tuple [.int .i64 (iL b),.bool (qA b)]:=by rw[(N7 h).1,(N7 h).2]
theorem Lu {q:Nat} (h:q≤9223372036854775808):IntKind.i64.wrap (IntKind.u64.wrap ((0:Int)-(q:Int)))= -(q:Int):=by rw[wrap_u64,IntKind.wrap_i64];omega
theorem Vh {b:Nat} (hb:b<18446744073709551616) {e f:Nat} (he:b%9223372036854775808=(e+1)*4503599627370496+f) (h1:e≤2045) (hf:f<4503599627370496):
  double.read b=.number (decide (9223372036854775808≤b)) (4503599627370496+f) (-1074+(e:Int)):=by
 have hw:b=double.word (decide (9223372036854775808≤b)) ((e+1)*4503599627370496+f):=by
  rw[xO]
  by_cases h:9223372036854775808≤b
  ·rw[decide_eq_true h,if_pos rfl];omega
  ·rw[decide_eq_false h,if_neg Bool.false_ne_true];omega
 have:=qU (decide (9223372036854775808≤b)) e f h1 hf
 rw[←hw] at this
 exact this
theorem EL {b:Nat} (h:b%9223372036854775808<4503599627370496):∃s,double.read b=.number s (b%9223372036854775808) (-1074):=by
 refine⟨b/9223372036854775808%2==1,?_⟩
 unfold Ieee.Format.read
 rw[show double.signWeight=9223372036854775808 from rfl,show double.binade=4503599627370496 from rfl]
 dsimp only
 rw[if_pos h];rfl
theorem N8 {b:Nat} (h:9218868437227405312≤b%9223372036854775808):∀s M p,double.read b≠.number s M p:=by
 intro s M p hc
 unfold Ieee.Format.read at hc
 rw[show double.signWeight=9223372036854775808 from rfl,show double.binade=4503599627370496 from rfl,show double.infRung=9218868437227405312 from rfl] at hc
 dsimp only at hc
 rw[if_neg (by omega),if_neg (by omega)] at hc
 split at hc<;>cases hc
theorem pJ {b:Nat} {x:Int} (h:TI b x) {s:Bool} {M:Nat} {p:Int} (hr:double.read b=.number s M p):∃Q,M*2^(p+1074).toNat=Q*2^1074∧x=signed s Q 0∧ -9223372036854775808≤x∧x<9223372036854775808:=by
 obtain⟨t,Q,⟨N,q,gu,hq,hv⟩,hx,h1,h2⟩:=h
 rw[hr] at gu
 cases gu
 exact⟨Q,hv,hx,h1,h2⟩
theorem s9 {M k Q:Nat} {p:Int} (hk:p+k=0) (hp: -1074≤p):M*2^(p+1074).toNat=Q*2^1074↔M=Q*2^k:=by
 have e:1074=k+(p+1074).toNat:=by omega
 constructor
 ·intro h
  rw[show Q*2^1074=Q*2^(k+(p+1074).toNat) by rw[←e],Nat.pow_add,←Nat.mul_assoc] at h
  exact Nat.eq_of_mul_eq_mul_right (Nat.two_pow_pos _) h
 ·intro h
  rw[h,Nat.mul_assoc,←Nat.pow_add,←e]
theorem N9 {M k:Nat} {p:Int} (hk:p=k):M*2^(p+1074).toNat=(M*2^k)*2^1074:=by
 rw[show(p+1074).toNat=k+1074 by omega,Nat.pow_add,Nat.mul_assoc]
section
variable [Env] [aL] {vs:List V} {σ:St} {k:ai}
theorem Vi (h:QA vs σ k):ag Tryz.prog 270 vs k σ:=by
 unfold QA at h
 split at h
 ·rename_i b
  obtain⟨hb,h⟩:=h
  refine ag.cb (ar (Go.Ev.Clean.int _ _) aG) (.tuple (bD (.int _ _) (bD (.bool _) gb))) (F270.flat (live:=Iv) (call:=Lq) (n₀:=0) (σ:=Go.Ev.start) (fun h=>ID h) rfl (by kernel_rfl) ?_) h
  rw[agH]
  cases hr:double.read b.toNat with
  | nan s t=>
   have no:∀x,¬TI b.toNat x:=fun x ⟨_,_,⟨_,_,gu,_⟩,_⟩=>by rw[hr] at gu;cases gu
   refine aa.mk (fun _=>vr no) fun h1=>?_
   have:(Datum.order (double.read b.toNat) (double.read b.toNat) != some .eq)=false:=h1
   rw[hr] at this
   cases this
  | infinity s=>
   have no:∀x,¬TI b.toNat x:=fun x ⟨_,_,⟨_,_,gu,_⟩,_⟩=>by rw[hr] at gu;cases gu
   refine aa.mk (fun _=>vr no) fun _=>aa.mk (fun _=>vr no) fun h2=>aa.mk (fun _=>vr no) fun h3=>?_
   have h2:(Datum.order (double.read b.toNat) (double.read 14114281232179134464)==some .lt)=false:=h2
   have h3:(Datum.order (double.read b.toNat) (double.read 4890909195324358656)==some .gt||Datum.order (double.read b.toNat) (double.read 4890909195324358656)==some .eq)=false:=h3
   rw[hr,zj] at h2
   rw[hr,B5] at h3
   cases s
   ·cases h3
   ·cases h2
  | number s M p=>
   obtain⟨hp,hM⟩:=EH hr
   refine aa.mk (fun h1=>?_) fun _=>aa.mk (fun h2=>vr fun x hx=>?_) fun h2=>aa.mk (fun h3=>vr fun x hx=>?_) fun h3=>⟨?_,aa.mk (fun h4=>vr fun x hx=>?_) fun h4=>?_⟩
   ·have h1:(Datum.order (double.read b.toNat) (double.read b.toNat) != some .eq)=true:=h1
    rw[hr,qz hp hp,bne,cmp_eq,decide_eq_true rfl] at h1
    cases h1
   ·obtain⟨t,Q,hw,rfl,h5,_⟩:=hx
    rw[hw.lt] at h2
    have:=of_decide_eq_true h2
    omega
   ·obtain⟨t,Q,hw,rfl,_,h5⟩:=hx
    rw[hw.ge] at h3
    have:=of_decide_eq_true h3
    omega
   ·show(double.read b.toNat).isNaN=false
    rw[hr];rfl
   ·obtain⟨Q,hv,_⟩:=pJ hx hr
    refine(EI hr h2 h3).2.mp h4 ?_
    rw[Yq hp hv];exact hv
   ·have hv:M*2^(p+1074).toNat=((M <<< p.toNat)/2^(-p).toNat)*2^1074:=Classical.byContradiction fun c=>by
     have:=(EI hr h2 h3).2.mpr c
     rw[h4] at this;cases this
    have hw:Wh b.toNat s ((M <<< p.toNat)/2^(-p).toNat):=⟨M,p,hr,hp,hv⟩
    rw[hw.lt] at h2
    rw[hw.ge] at h3
    have h2:=of_decide_eq_false h2
    have h3:=of_decide_eq_false h3
    refine⟨hw.BP (by omega) (by omega),?_⟩
    rw[hw.oh]
    exact TC ⟨s,_,hw,rfl,by omega,by omega⟩
 ·exact h.elim
theorem IE:∀ {f:FuncId} {vs:List V} {σ:St} {k:ai},Lr f vs σ k→ag Tryz.prog f vs k σ:=fun h=>aD Vi ID h
omit [Env] [aL] in
theorem Lv {b:Nat} (h:b<18446744073709551616):(((b:Nat):Int).fdiv (2^min (63:Int).toNat IntKind.u64.bits)=(1:Int))↔9223372036854775808≤b:=by
 rw[show(63:Int)=((63:Nat):Int) from rfl,CI _ _ (by decide)]
 omega
theorem Vj (h:QB vs σ k):ag Tryz.prog 243 vs k σ:=by
 unfold QB at h
 split at h
 ·rename_i bb
  obtain⟨hb,h⟩:=h
  refine ag.cb (ar (Go.Ev.Clean.int _ _) aG) (.tuple (bD (.int _ _) (bD (.bool _) gb))) (F243.flat (live:=Iw) (call:=Lr) (n₀:=0) (σ:=Go.Ev.start) (fun h=>IE h) rfl (by kernel_rfl) ?_) h
  rw[agI]
  obtain⟨b,rfl⟩:∃b:Nat,bb=b:=⟨bb.toNat,(Int.toNat_of_nonneg hb.1).symm⟩
  have bG:b<18446744073709551616:=by have:=hb.2;omega
  have no:(∀x,¬TI b x)→V.tuple [.int .i64 (0:Int),.bool false]=.tuple [.int .i64 (iL b),.bool (qA b)]:=fun h=>vr h
  have yes:∀ {x:Int},TI b x→V.tuple [.int .i64 x,.bool true]=.tuple [.int .i64 (iL b),.bool (qA b)]:=fun h=>TC h
  have eE:dT (b:Int)=((b%9223372036854775808/4503599627370496:Nat):Int):=by unfold dT;omega
  have eF:gk (b:Int)=((b%4503599627370496:Nat):Int):=by unfold gk;omega
  have zW:lA (b:Int)=3↔b%9223372036854775808=0:=by unfold lA;rw[eE,eF];(repeat' split)<;>omega
  have TD:lA (b:Int)=5↔4503599627370496≤b%9223372036854775808∧b%9223372036854775808<9218868437227405312:=by unfold lA;rw[eE,eF];(repeat' split)<;>omega
  refine⟨hb,rfl,aq (fun h1=>yes ?_) fun h1=>⟨rfl,aq (fun h2=>no ?_) fun h2=>⟨hb,hb,?_⟩⟩⟩
  ·have h0:=zW.mp h1
   obtain⟨s,hr⟩:=EL (b:=b) (by omega)
   rw[h0] at hr
   exact⟨s,0,⟨0,-1074,hr,by omega,by rw[Nat.zero_mul,Nat.zero_mul]⟩,by cases s<;>rfl,by decide,by decide⟩
  ·intro x hx
   by_cases hl:b%9223372036854775808<4503599627370496
   ·obtain⟨s,hr⟩:=EL hl
    obtain⟨Q,hv,_⟩:=pJ hx hr
    have hv:=(s9 (k:=1074) (by omega) (by omega)).mp hv
    have h0:b%9223372036854775808≠0:=fun c=>h1 (zW.mpr c)
    have hQ:Q≠0:=fun c=>h0 (by rw[hv,c,Nat.zero_mul])
    have Ys:2^53≤2^1074:=Nat.pow_le_pow_right (by decide) (by decide)
    have:=Nat.mul_le_mul (Nat.one_le_iff_ne_zero.mpr hQ) Ys
    omega
   ·obtain⟨_,_,⟨_,_,gu,_⟩,_⟩:=hx
    exact N8 (Nat.le_of_not_lt fun c=>h2 (TD.mpr ⟨by omega,c⟩)) _ _ _ gu
  ·have h2:=TD.mp (Classical.not_not.mp h2)
   obtain⟨e,f,he,hf,WJ⟩:∃e f:Nat,e≤2045∧f<4503599627370496∧b%9223372036854775808=(e+1)*4503599627370496+f:=⟨b%9223372036854775808/4503599627370496-1,b%4503599627370496,by omega,by omega,by omega⟩
   have hr:=Vh bG WJ he hf
   have eE:dT (b:Int)=((e+1:Nat):Int):=by rw[eE];omega
   have eF:gk (b:Int)=((f:Nat):Int):=by rw[eF];omega
   have eM:IntKind.u64.wrap (BitVec.ofInt IntKind.u64.bits ((f:Nat):Int)||| BitVec.ofInt IntKind.u64.bits (4503599627370496:Int)).toNat=((4503599627370496+f:Nat):Int):=by
    rw[show(4503599627370496:Int)=((4503599627370496:Nat):Int) from rfl,Ix (by omega) (by omega),Nat.or_comm]
    have:=zk (k:=52) (a:=1) (b:=f) (by omega)
    rw[Nat.mul_one] at this
    rw[show(4503599627370496:Nat)=2^52 from rfl,this]
   rw[eE,eF,eM]
   have e1:IntKind.i64.wrap ((IntKind.i64.wrap ((((e+1:Nat):Int))-(1023:Int)))-(52:Int))=(e:Int)-1074:=by rw[i64_in (((e+1:Nat):Int)-1023) (by omega),i64_in _ (by omega)];omega
   rw[e1]
   generalize hM:4503599627370496+f=M at *
   have hM1:4503599627370496≤M:=by omega
   have hM2:M<9007199254740992:=by omega
   refine⟨rfl,aq (fun h3=>no fun x hx=>?_) fun h3=>⟨rfl,aq (fun h4=>no fun x hx=>?_) fun h4=>⟨rfl,aq (fun h5=>?_) fun h5=>?_⟩⟩⟩
   ·obtain⟨Q,hv,_⟩:=pJ hx hr
    have hv:=(s9 (k:=1074-e) (by omega) (by omega)).mp hv
    have hQ:Q≠0:=fun c=>by rw[c,Nat.zero_mul] at hv;omega
    have Ys:2^53≤2^(1074-e):=Nat.pow_le_pow_right (by decide) (by omega)
    have:=Nat.mul_le_mul (Nat.one_le_iff_ne_zero.mpr hQ) Ys
    omega
   ·obtain⟨Q,hv,hx,h6,h7⟩:=pJ hx hr
    rw[N9 (k:=e-1074) (by omega)] at hv
    have hv:=Nat.eq_of_mul_eq_mul_right (Nat.two_pow_pos _) hv
    have h12:2^12≤2^(e-1074):=Nat.pow_le_pow_right (by decide) (by omega)
    have:=Nat.mul_le_mul hM1 h12
    rw[gQ] at hx
    split at hx<;>omega
   ·have e2:IntKind.u64.wrap (IntKind.i64.wrap ((0:Int)-((e:Int)-1074)))=((1074-e:Nat):Int):=by rw[i64_in _ (by omega),wrap_u64];omega
    rw[e2,Ty (by omega) (by omega),CI _ _ (by omega)]
    refine⟨by omega,rfl,aq (fun h6=>no fun x hx=>?_) fun h6=>⟨by omega,by omega,rfl,?_⟩⟩
    ·obtain⟨Q,hv,_⟩:=pJ hx hr
     have hv:=(s9 (k:=1074-e) (by omega) (by omega)).mp hv
     exact h6 (by rw[hv,Nat.mul_mod_left];rfl)
    ·have h6:M%2^(1074-e)=0:=by omega
     have hq:M=M/2^(1074-e)*2^(1074-e):=by
      have:=Nat.div_add_mod M (2^(1074-e))
      rw[Nat.mul_comm,h6] at this;exact this.symm
     have hw:Wh b (decide (9223372036854775808≤b)) (M/2^(1074-e)):=⟨M,_,hr,by omega,(s9 (k:=1074-e) (by omega) (by omega)).mpr hq⟩
     have hle:M/2^(1074-e)≤M:=Nat.div_le_self _ _
     generalize M/2^(1074-e)=q at *
     refine aa.mk (fun h7=>⟨rfl,aq (fun h8=>by omega) fun h8=>yes ⟨_,q,hw,?_,?_⟩⟩) fun h7=>⟨rfl,aq (fun h8=>by omega) fun h8=>yes ⟨_,q,hw,?_,?_⟩⟩
     ·rw[decide_eq_true ((Lv bG).mp (of_decide_eq_true h7)),gQ,if_pos rfl,Lu (by omega)]
     ·rw[Lu (by omega)];omega
     ·rw[decide_eq_false (fun c=>(of_decide_eq_false h7) ((Lv bG).mpr c)),gQ,if_neg Bool.false_ne_true,i64_in _ (by omega)]
     ·rw[i64_in _ (by omega)];omega
   ·have e2:IntKind.u64.wrap ((e:Int)-1074)=((e-1074:Nat):Int):=by rw[wrap_u64];omega
    have h11:2^(e-1074)≤2^11:=Nat.pow_le_pow_right (by decide) (by omega)
    have hmul:=Nat.mul_le_mul (show M≤9007199254740991 by omega) h11
    have hw:Wh b (decide (9223372036854775808≤b)) (M*2^(e-1074)):=⟨M,_,hr,by omega,N9 (by omega)⟩
    rw[e2,AN _ _ (by omega),Nat.mod_eq_of_lt (by omega)]
    generalize M*2^(e-1074)=q at *
    refine⟨by omega,by omega,rfl,aa.mk (fun h7=>?_) fun h7=>?_⟩
    ·have hs:=(Lv bG).mp (of_decide_eq_true h7)
     rw[decide_eq_true hs] at hw
     refine⟨rfl,aq (fun h8=>no fun x hx=>?_) fun h8=>yes ⟨_,q,hw,?_,?_⟩⟩
     ·obtain⟨t,Q,Yt,rfl,h9,_⟩:=hx
      rw[Yt.N5 hw,gQ,if_pos rfl] at h9;omega
     ·rw[gQ,if_pos rfl,Lu (by omega)]
     ·rw[Lu (by omega)];omega
    ·rw[decide_eq_false (fun c=>(of_decide_eq_false h7) ((Lv bG).mpr c))] at hw
     refine⟨rfl,aq (fun h8=>no fun x hx=>?_) fun h8=>yes ⟨_,q,hw,?_,?_⟩⟩
     ·obtain⟨t,Q,Yt,rfl,_,h9⟩:=hx
      rw[Yt.N5 hw,gQ,if_neg Bool.false_ne_true] at h9;omega
     ·rw[gQ,if_neg Bool.false_ne_true,i64_in _ (by omega)]
     ·rw[i64_in _ (by omega)];omega
 ·exact h.elim
theorem IF:∀ {f:FuncId} {vs:List V} {σ:St} {k:ai},Ls f vs σ k→ag Tryz.prog f vs k σ:=fun h=>aD Vj IE h
end
end Go.Proofs.YtbajncpfmemdgaaGreatDoor
end
section
namespace Go.Proofs.YtbajncpfmemdgaaGreatDoor
open Go Go.Ev
def zl (v:aC):Prop:=Xx v∧dL v.f1
def kh:aC:=⟨0,0,0,[]⟩
def ff (n d:Int):Int:=if d=1 then(if n=0∨n=1 then 0 else 6) else if d=3 then(if pI n=true then 0 else 6) else 0
def cZ (n d:Int):aC:=
 if d=1 then(if n=0∨n=1 then⟨d,n,0,[]⟩ else kh) else if d=3 then(if pI n=true then⟨d,0,xl n,[]⟩ else kh)
 else if d=4 then⟨d,0,0,kZ (IntKind.u64.wrap n) 8⟩ else if d=5 then⟨d,0,0,gd n⟩ else⟨d,n,0,[]⟩
def iB:List UInt8:=[102,97,108,115,101]
def jv:List UInt8:=[116,114,117,101]
def iO (n d:Int):aC:=if d=5 then(if n=1 then⟨d,0,0,jv⟩ else⟨d,0,0,iB⟩) else cZ n d
noncomputable def kF (b d:Int):Int:=if d=4 then 0 else if qA b=true then ff (iL b) d else 6
noncomputable def iC (b d:Int):aC:=if d=4 then⟨d,0,0,kZ b 8⟩ else if qA b=true then cZ (iL b) d else kh
noncomputable def jG (s:List UInt8) (d:Int):Int:=if d=5 then(if dR s.length s=true then 0 else 7) else if s.length=8 then 0 else 6
noncomputable def gw (s:List UInt8) (d:Int):aC:=
 if d=5 then(if dR s.length s=true then⟨d,0,0,s⟩ else kh) else if s.length=8 then(if d=3 then⟨d,0,fG (ja s 8),[]⟩ else⟨d,IntKind.i64.wrap (ja s 8),0,[]⟩) else kh
noncomputable def iP (s:List UInt8) (d:Int):Int:=if d=4 then 0 else if d=1 then(if s=jv∨s=iB then 0 else 7) else fw s
noncomputable def hG (s:List UInt8) (d:Int):aC:=if d=4 then⟨d,0,0,s⟩ else if d=1 then(if s=jv then⟨d,1,0,[]⟩ else if s=iB then⟨d,0,0,[]⟩ else kh) else if fw s=0 then⟨d,gW s,0,[]⟩ else kh
noncomputable def EM (v:aC) (d:Int):Int:=
 if bj v≠0 then bj v else if d<1∨d>5 then 5 else if v.f0=0∨v.f0=d then 0 else if iY v.f0 d=false then 5
 else if v.f0=1 then 0 else if v.f0=2 then ff v.f1 d else if v.f0=3 then kF v.f2 d else if v.f0=4 then jG v.f3 d else iP v.f3 d
noncomputable def jV (v:aC) (d:Int):aC:=
 if bj v≠0 then kh else if d<1∨d>5 then kh else if v.f0=0∨v.f0=d then v else if iY v.f0 d=false then kh
 else if v.f0=1 then iO v.f1 d else if v.f0=2 then cZ v.f1 d else if v.f0=3 then iC v.f2 d else if v.f0=4 then gw v.f3 d else hG v.f3 d
def TE (v:aC):V:=.func (.func 266) [] [.aQ [.int .i64 v.f0,.int .i64 v.f1,.int .u64 v.f2,.str v.f3] 0]
def IG (e:Int):V:=.func (.func 265) [] [.aQ [.int .i64 e] 0]
def wG (e:Int) (v:aC) (σ:St) (k:ai):Prop:=(e=0→k (TE v) σ)∧(e≠0→k (IG e) σ)
def IH:Nat→List Nat:=(fun _=>[])
theorem agK [Env] (A:Nat→List SV→Prop) (Q:V→Prop) (n:Int):WE Tryz.prog 241 Tryz.f241 Ls 0 IH A (fun v _=>Q v) [.int .i64 n] Go.Ev.start=
  (((.i64:IntKind)=.i64∧aa (decide (n≠(0:Int))) (((.i64:IntKind)=.i64∧aa (decide (n≠(1:Int))) (Q (.tuple [.agg [.int .i64 (0:Int),.int .i64 (0:Int),.int .u64 (0:Int),.str ([])],.int .i64 (6:Int)])) (Q (.tuple [.agg [.int .i64 (1:Int),.int .i64 n,.int .u64 (0:Int),.str ([])],.int .i64 (0:Int)])))) (Q (.tuple [.agg [.int .i64 (1:Int),.int .i64 n,.int .u64 (0:Int),.str ([])],.int .i64 (0:Int)])))):=by kernel_rfl
def QE [Env] (vs:List V) (σ:St) (k:ai):Prop:=
 match vs with
 | [.int .i64 x]=>k (.tuple [aC.enc (cZ x 1),.int .i64 (ff x 1)]) σ
 | _=>False
def Lw [Env]:=kS 241 QE Ls
def II:Nat→List Nat:=(fun _=>[])
theorem agL [Env] (A:Nat→List SV→Prop) (Q:V→Prop) (x d:Int):WE Tryz.prog 207 Tryz.f207 Lw 0 II A (fun v _=>Q v) [.int .i64 x,.int .i64 d] Go.Ev.start=
  (((.i64:IntKind)=.i64∧aa (decide (d=(2:Int))) (Q (.tuple [.agg [.int .i64 d,.int .i64 x,.int .u64 (0:Int),.str ([])],.int .i64 (0:Int)])) (((.i64:IntKind)=.i64∧aa (decide (d=(3:Int))) ((dL x∧Q (.tuple [.agg [.int .i64 d,.int .i64 (0:Int),.int .u64 (xl x),.str ([])],.int .i64 (0:Int)]))) (((.i64:IntKind)=.i64∧aa (decide (x=(1:Int))) (Q (.tuple [.agg [.int .i64 d,.int .i64 (0:Int),.int .u64 (0:Int),.str ([116,114,117,101])],.int .i64 (0:Int)])) (Q (.tuple [.agg [.int .i64 d,.int .i64 (0:Int),.int .u64 (0:Int),.str ([102,97,108,115,101])],.int .i64 (0:Int)])))))))):=by kernel_rfl
def QF [Env] (vs:List V) (σ:St) (k:ai):Prop:=
 match vs with
 | [.int .i64 x,.int .i64 d]=>(((x=0∨x=1)∧(d=2∨d=3∨d=5)))∧k (.tuple [aC.enc (iO x d),.int .i64 ((0:Int))]) σ
 | _=>False
def Lx [Env]:=kS 207 QF Lw
def IJ:Nat→List Nat:=(fun _=>[])
theorem agM [Env] (A:Nat→List SV→Prop) (Q:V→Prop) (x d:Int):WE Tryz.prog 208 Tryz.f208 Lx 0 IJ A (fun v _=>Q v) [.int .i64 x,.int .i64 d] Go.Ev.start=
  (((.i64:IntKind)=.i64∧aa (decide (d=(1:Int))) (Q (.tuple [.agg [.int .i64 ((cZ x 1).f0),.int .i64 ((cZ x 1).f1),.int .u64 ((cZ x 1).f2),.str ((cZ x 1).f3)],.int .i64 (ff x 1)])) (((.i64:IntKind)=.i64∧aa (decide (d=(3:Int))) ((dL x∧aa ((!(pI x))) (Q (.tuple [.agg [.int .i64 (0:Int),.int .i64 (0:Int),.int .u64 (0:Int),.str ([])],.int .i64 (6:Int)])) (Q (.tuple [.agg [.int .i64 d,.int .i64 (0:Int),.int .u64 (xl x),.str ([])],.int .i64 (0:Int)])))) (((.i64:IntKind)=.i64∧aa (decide (d=(4:Int))) (Q (.tuple [.agg [.int .i64 d,.int .i64 (0:Int),.int .u64 (0:Int),.str (kZ (IntKind.u64.wrap x) 8)],.int .i64 (0:Int)])) ((dL x∧Q (.tuple [.agg [.int .i64 d,.int .i64 (0:Int),.int .u64 (0:Int),.str (gd x)],.int .i64 (0:Int)]))))))))):=by kernel_rfl
def QG [Env] (vs:List V) (σ:St) (k:ai):Prop:=
 match vs with
 | [.int .i64 x,.int .i64 d]=>((dL x∧(d=1∨d=3∨d=4∨d=5)))∧k (.tuple [aC.enc (cZ x d),.int .i64 (ff x d)]) σ
 | _=>False
def Ly [Env]:=kS 208 QG Lx
def IK:Nat→List Nat:=(fun _=>[])
theorem agN [Env] (A:Nat→List SV→Prop) (Q:V→Prop) (x d:Int):WE Tryz.prog 209 Tryz.f209 Ly 0 IK A (fun v _=>Q v) [.int .u64 x,.int .i64 d] Go.Ev.start=
  (((.i64:IntKind)=.i64∧aa (decide (d=(4:Int))) (Q (.tuple [.agg [.int .i64 d,.int .i64 (0:Int),.int .u64 (0:Int),.str (kZ x 8)],.int .i64 (0:Int)])) ((nZ x∧aa ((!(qA x))) (Q (.tuple [.agg [.int .i64 (0:Int),.int .i64 (0:Int),.int .u64 (0:Int),.str ([])],.int .i64 (6:Int)])) (((.i64:IntKind)=.i64∧aa (decide (d=(1:Int))) (Q (.tuple [.agg [.int .i64 ((cZ (iL x) 1).f0),.int .i64 ((cZ (iL x) 1).f1),.int .u64 ((cZ (iL x) 1).f2),.str ((cZ (iL x) 1).f3)],.int .i64 (ff (iL x) 1)])) (Q (.tuple [.agg [.int .i64 d,.int .i64 (iL x),.int .u64 (0:Int),.str ([])],.int .i64 (0:Int)])))))))):=by kernel_rfl
def QH [Env] (vs:List V) (σ:St) (k:ai):Prop:=
 match vs with
 | [.int .u64 x,.int .i64 d]=>((nZ x∧(d=1∨d=2∨d=4)))∧k (.tuple [aC.enc (iC x d),.int .i64 (kF x d)]) σ
 | _=>False
def EN [Env]:=kS 209 QH Ly
def AP:Nat→List Nat:=(fun i=>match i with | 0=>[0,3,4] | _=>[])
theorem EO [Env] (A:Nat→List SV→Prop) (Q:V→Prop) (s:List UInt8):WE Tryz.prog 244 Tryz.f244 EN 0 AP A (fun v _=>Q v) [.str s] Go.Ev.start=
  (A 0 [.val (.str s),.val (.int .u64 (0:Int)),.val (.int .i64 (0:Int))]):=by kernel_rfl
theorem agO [Env] (A:Nat→List SV→Prop) (Q:V→Prop) (s:List UInt8) (n i:Int):WL Tryz.prog 244 Tryz.f244 EN 0 AP A (fun v _=>Q v) 0 [.val (.str s),.val (.int .u64 n),.val (.int .i64 i)]=
  (((.i64:IntKind)=.i64∧aa (decide (i<(8:Int))) ((0≤(8:Int)∧((0≤i∧i<((len s:Nat):Int))∧A 0 [.val (.str s),.val (.int .u64 (IntKind.u64.wrap (BitVec.ofInt IntKind.u64.bits (IntKind.u64.wrap (n*2^min (8:Int).toNat IntKind.u64.bits))||| BitVec.ofInt IntKind.u64.bits (IntKind.u64.wrap (bu s i))).toNat)),.val (.int .i64 (IntKind.i64.wrap (i+(1:Int))))]))) (Q (.int .u64 n)))):=by kernel_rfl
def QI [Env] (vs:List V) (σ:St) (k:ai):Prop:=
 match vs with
 | [.str s]=>s.length=8∧k (.int .u64 (ja s 8)) σ
 | _=>False
def Lz [Env]:=kS 244 QI EN
end Go.Proofs.YtbajncpfmemdgaaGreatDoor
end
section
namespace Go.Proofs.YtbajncpfmemdgaaGreatDoor
open Go Go.Ev
def IL:Nat→List Nat:=(fun _=>[])
theorem agP [Env] (A:Nat→List SV→Prop) (Q:V→Prop) (s:List UInt8) (d:Int):WE Tryz.prog 210 Tryz.f210 Lz 0 IL A (fun v _=>Q v) [.str s,.int .i64 d] Go.Ev.start=
  (((.i64:IntKind)=.i64∧aa (decide (d=(5:Int))) ((s.length≤64∧aa ((!(dR s.length s))) (Q (.tuple [.agg [.int .i64 (0:Int),.int .i64 (0:Int),.int .u64 (0:Int),.str ([])],.int .i64 (7:Int)])) (Q (.tuple [.agg [.int .i64 d,.int .i64 (0:Int),.int .u64 (0:Int),.str s],.int .i64 (0:Int)])))) (((.i64:IntKind)=.i64∧aa (decide ((((len s:Nat):Int))≠(8:Int))) (Q (.tuple [.agg [.int .i64 (0:Int),.int .i64 (0:Int),.int .u64 (0:Int),.str ([])],.int .i64 (6:Int)])) (((.i64:IntKind)=.i64∧aa (decide (d=(3:Int))) ((s.length=8∧((0≤(ja s 8)∧(ja s 8)<18446744073709551616)∧Q (.tuple [.agg [.int .i64 d,.int .i64 (0:Int),.int .u64 (fG (ja s 8)),.str ([])],.int .i64 (0:Int)])))) ((s.length=8∧Q (.tuple [.agg [.int .i64 d,.int .i64 (IntKind.i64.wrap (ja s 8)),.int .u64 (0:Int),.str ([])],.int .i64 (0:Int)]))))))))):=by kernel_rfl
def QJ [Env] (vs:List V) (σ:St) (k:ai):Prop:=
 match vs with
 | [.str x,.int .i64 d]=>((x.length≤64∧(d=2∨d=3∨d=5)))∧k (.tuple [aC.enc (gw x d),.int .i64 (jG x d)]) σ
 | _=>False
def LA [Env]:=kS 210 QJ Lz
def IM:Nat→List Nat:=(fun _=>[])
abbrev EP [Env] (A:Nat→List SV→Prop) (Q:V→Prop) (s:List UInt8) (d:Int):Prop:=
 ((.i64:IntKind)=.i64∧aa (decide (d=(1:Int))) (Q (.tuple [.agg [.int .i64 (0:Int),.int .i64 (0:Int),.int .u64 (0:Int),.str ([])],.int .i64 (7:Int)])) (((.i64:IntKind)=.i64∧aa (decide ((fw s)≠(0:Int))) (Q (.tuple [.agg [.int .i64 (0:Int),.int .i64 (0:Int),.int .u64 (0:Int),.str ([])],.int .i64 (fw s)])) (Q (.tuple [.agg [.int .i64 d,.int .i64 (gW s),.int .u64 (0:Int),.str ([])],.int .i64 (0:Int)])))))
theorem LB [Env] (A:Nat→List SV→Prop) (Q:V→Prop) (s:List UInt8) (d:Int):WE Tryz.prog 211 Tryz.f211 LA 0 IM A (fun v _=>Q v) [.str s,.int .i64 d] Go.Ev.start=
  (((.i64:IntKind)=.i64∧aa (decide (d=(4:Int))) (Q (.tuple [.agg [.int .i64 d,.int .i64 (0:Int),.int .u64 (0:Int),.str s],.int .i64 (0:Int)])) (((.i64:IntKind)=.i64∧aa (decide (d=(1:Int))) (aa (decide (s=[116,114,117,101])) (Q (.tuple [.agg [.int .i64 d,.int .i64 (1:Int),.int .u64 (0:Int),.str ([])],.int .i64 (0:Int)])) (((.i64:IntKind)=.i64∧aa (decide (d=(1:Int))) (aa (decide (s=[102,97,108,115,101])) (Q (.tuple [.agg [.int .i64 d,.int .i64 (0:Int),.int .u64 (0:Int),.str ([])],.int .i64 (0:Int)])) ((EP A Q s d))) ((EP A Q s d))))) (((.i64:IntKind)=.i64∧aa (decide (d=(1:Int))) (aa (decide (s=[102,97,108,115,101])) (Q (.tuple [.agg [.int .i64 d,.int .i64 (0:Int),.int .u64 (0:Int),.str ([])],.int .i64 (0:Int)])) ((EP A Q s d))) ((EP A Q s d)))))))):=by kernel_rfl
def QK [Env] (vs:List V) (σ:St) (k:ai):Prop:=
 match vs with
 | [.str x,.int .i64 d]=>((x.length≤64∧(d=1∨d=2∨d=4)))∧k (.tuple [aC.enc (hG x d),.int .i64 (iP x d)]) σ
 | _=>False
def LC [Env]:=kS 211 QK LA
def IP:Nat→List Nat:=(fun _=>[])
theorem AQ [Env] (A:Nat→List SV→Prop) (Q:V→Prop) (v:aC) (d:Int):WE Tryz.prog 163 Tryz.f163 LC 0 IP A (fun v _=>Q v) [aC.enc v,.int .i64 d] Go.Ev.start=
  (((0≤v.f2∧v.f2<18446744073709551616)∧((.i64:IntKind)=.i64∧aa (decide ((bj ⟨v.f0,v.f1,v.f2,v.f3⟩)≠(0:Int))) (Q (.tuple [.agg [.int .i64 (0:Int),.int .i64 (0:Int),.int .u64 (0:Int),.str ([])],.int .i64 (bj ⟨v.f0,v.f1,v.f2,v.f3⟩)])) (((.i64:IntKind)=.i64∧aa (decide (d<(1:Int))) (Q (.tuple [.agg [.int .i64 (0:Int),.int .i64 (0:Int),.int .u64 (0:Int),.str ([])],.int .i64 (5:Int)])) (((.i64:IntKind)=.i64∧aa (decide (d>(5:Int))) (Q (.tuple [.agg [.int .i64 (0:Int),.int .i64 (0:Int),.int .u64 (0:Int),.str ([])],.int .i64 (5:Int)])) (((.i64:IntKind)=.i64∧aa (decide (v.f0=(0:Int))) (Q (.tuple [.agg [.int .i64 v.f0,.int .i64 v.f1,.int .u64 v.f2,.str v.f3],.int .i64 (0:Int)])) (((.i64:IntKind)=.i64∧aa (decide (v.f0=d)) (Q (.tuple [.agg [.int .i64 v.f0,.int .i64 v.f1,.int .u64 v.f2,.str v.f3],.int .i64 (0:Int)])) (aa ((!(iY v.f0 d))) (Q (.tuple [.agg [.int .i64 (0:Int),.int .i64 (0:Int),.int .u64 (0:Int),.str ([])],.int .i64 (5:Int)])) (((.i64:IntKind)=.i64∧aa (decide (v.f0=(1:Int))) ((((v.f1=0∨v.f1=1)∧(d=2∨d=3∨d=5))∧Q (.tuple [.agg [.int .i64 ((iO v.f1 d).f0),.int .i64 ((iO v.f1 d).f1),.int .u64 ((iO v.f1 d).f2),.str ((iO v.f1 d).f3)],.int .i64 ((0:Int))]))) (((.i64:IntKind)=.i64∧aa (decide (v.f0=(2:Int))) (((dL v.f1∧(d=1∨d=3∨d=4∨d=5))∧Q (.tuple [.agg [.int .i64 ((cZ v.f1 d).f0),.int .i64 ((cZ v.f1 d).f1),.int .u64 ((cZ v.f1 d).f2),.str ((cZ v.f1 d).f3)],.int .i64 (ff v.f1 d)]))) (((.i64:IntKind)=.i64∧aa (decide (v.f0=(3:Int))) (((nZ v.f2∧(d=1∨d=2∨d=4))∧Q (.tuple [.agg [.int .i64 ((iC v.f2 d).f0),.int .i64 ((iC v.f2 d).f1),.int .u64 ((iC v.f2 d).f2),.str ((iC v.f2 d).f3)],.int .i64 (kF v.f2 d)]))) (((.i64:IntKind)=.i64∧aa (decide (v.f0=(4:Int))) (((v.f3.length≤64∧(d=2∨d=3∨d=5))∧Q (.tuple [.agg [.int .i64 ((gw v.f3 d).f0),.int .i64 ((gw v.f3 d).f1),.int .u64 ((gw v.f3 d).f2),.str ((gw v.f3 d).f3)],.int .i64 (jG v.f3 d)]))) (((v.f3.length≤64∧(d=1∨d=2∨d=4))∧Q (.tuple [.agg [.int .i64 ((hG v.f3 d).f0),.int .i64 ((hG v.f3 d).f1),.int .u64 ((hG v.f3 d).f2),.str ((hG v.f3 d).f3)],.int .i64 (iP v.f3 d)]))))))))))))))))))))))):=by kernel_rfl
def QL [Env] (vs:List V) (σ:St) (k:ai):Prop:=
 match vs with
 | [.agg [.int .i64 a,.int .i64 b,.int .u64 c,.str s],.int .i64 d]=>zl ⟨a,b,c,s⟩∧k (.tuple [aC.enc (jV ⟨a,b,c,s⟩ d),.int .i64 (EM ⟨a,b,c,s⟩ d)]) σ
 | _=>False
def LD [Env]:=kS 163 QL LC
end Go.Proofs.YtbajncpfmemdgaaGreatDoor
end
