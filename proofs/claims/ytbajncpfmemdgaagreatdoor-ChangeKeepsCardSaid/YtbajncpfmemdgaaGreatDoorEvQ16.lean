/- Proved: parts of the way: BEq10, BEq11, BC1, BCD, BCE, Flt, BEq12, BC2, BC3. -/
import Derived.Test.YtbajncpfmemdgaaGreatDoorEvQ15
import Derived.Test.YtbajncpfmemdgaaGreatDoorEvQ09
set_option linter.unusedVariables false
set_option linter.unusedSimpArgs false
section
namespace Go.Proofs.YtbajncpfmemdgaaGreatDoor
open Go Go.Ev
def lc (c:Nat→Int) (i:Nat):List UInt8:=((List.range 20).drop i).map fun j=>UInt8.ofNat (c j).toNat
def put (c:Nat→Int) (i:Nat) (x:Int):Nat→Int:=fun j=>if j=i then x else c j
def zf (i:Nat) (c:Nat→Int) (j:Nat):Int:=bif Nat.blt j i then 0 else c j
def zF (n m:Int) (c:Nat→Int) (i:Nat):List SV:=[.val (.int .i64 n),.val (.int .u64 m),.box ((List.range 20).map fun j=>.int .u8 (zf i c j)),.val (.int .i64 ((i:Nat):Int))]
def Tj (A:Nat→List SV→Prop) (n m:Int) (c:Nat→Int) (i:Nat):Prop:=
 ((.u64:IntKind)=.u64∧(10:Int)≠0)∧(((.u64:IntKind)=.u64∧(10:Int)≠0)∧A 0 (zF n (IntKind.u64.wrap (m.tdiv 10)) (put c i (IntKind.u8.wrap (IntKind.u64.wrap (48+m.tmod 10)))) i))
def aaA (A:Nat→List SV→Prop) (Q:V→Prop) (n m:Int) (c:Nat→Int) (i:Nat):Prop:=
 (.i64:IntKind)=.i64∧((.u64:IntKind)=.u64∧af (decide (m>0)) (Tj A n m c (i-1)) ((.i64:IntKind)=.i64∧af (decide (n<0)) (Q (.str (UInt8.ofNat (45:Int).toNat::lc c i))) (Q (.str (lc c i)))))
def vt:Nat→List Nat:=(fun i=>match i with | 0=>[0,3,4,5] | _=>[])
theorem aaB [Env] (A:Nat→List SV→Prop) (Q:V→Prop) (n:Int):WE Tryz.prog 269 Tryz.f269 zE 0 vt A (fun v _=>Q v) [.int .i64 n] Go.Ev.start=
  (((.i64:IntKind)=.i64∧af (decide (n<(0:Int))) (A 0 [.val (.int .i64 n),.val (.int .u64 (IntKind.u64.wrap ((0:Int)-(IntKind.u64.wrap n)))),.box [.int .u8 (0:Int),.int .u8 (0:Int),.int .u8 (0:Int),.int .u8 (0:Int),.int .u8 (0:Int),.int .u8 (0:Int),.int .u8 (0:Int),.int .u8 (0:Int),.int .u8 (0:Int),.int .u8 (0:Int),.int .u8 (0:Int),.int .u8 (0:Int),.int .u8 (0:Int),.int .u8 (0:Int),.int .u8 (0:Int),.int .u8 (0:Int),.int .u8 (0:Int),.int .u8 (0:Int),.int .u8 (0:Int),.int .u8 (0:Int)],.val (.int .i64 (20:Int))]) (A 0 [.val (.int .i64 n),.val (.int .u64 (IntKind.u64.wrap n)),.box [.int .u8 (0:Int),.int .u8 (0:Int),.int .u8 (0:Int),.int .u8 (0:Int),.int .u8 (0:Int),.int .u8 (0:Int),.int .u8 (0:Int),.int .u8 (0:Int),.int .u8 (0:Int),.int .u8 (0:Int),.int .u8 (0:Int),.int .u8 (0:Int),.int .u8 (0:Int),.int .u8 (0:Int),.int .u8 (0:Int),.int .u8 (0:Int),.int .u8 (0:Int),.int .u8 (0:Int),.int .u8 (0:Int),.int .u8 (0:Int)],.val (.int .i64 (20:Int))]))):=by kernel_rfl
theorem aaC [Env] (A:Nat→List SV→Prop) (Q:V→Prop) (n m:Int) (c:Nat→Int):∀i:Nat,1≤i→i<20→WL Tryz.prog 269 Tryz.f269 zE 0 vt A (fun v _=>Q v) 0 (zF n m c i)=aaA A Q n m c i
 | 0,h,_=>absurd h (by decide)
 | 1,_,_=>by kernel_rfl
 | 2,_,_=>by kernel_rfl
 | 3,_,_=>by kernel_rfl
 | 4,_,_=>by kernel_rfl
 | 5,_,_=>by kernel_rfl
 | 6,_,_=>by kernel_rfl
 | 7,_,_=>by kernel_rfl
 | 8,_,_=>by kernel_rfl
 | 9,_,_=>by kernel_rfl
 | 10,_,_=>by kernel_rfl
 | 11,_,_=>by kernel_rfl
 | 12,_,_=>by kernel_rfl
 | 13,_,_=>by kernel_rfl
 | 14,_,_=>by kernel_rfl
 | 15,_,_=>by kernel_rfl
 | 16,_,_=>by kernel_rfl
 | 17,_,_=>by kernel_rfl
 | 18,_,_=>by kernel_rfl
 | 19,_,_=>by kernel_rfl
 | _+20,_,h=>absurd h (by omega)
theorem Qe [Env] (A:Nat→List SV→Prop) (Q:V→Prop) (n m:Int) (c:Nat→Int):WL Tryz.prog 269 Tryz.f269 zE 0 vt A (fun v _=>Q v) 0 (zF n m c 20)=((.i64:IntKind)=.i64∧Tj A n m c 19):=by kernel_rfl
def MH [Env] (vs:List V) (σ:St) (k:ah):Prop:=
 match vs with
 | [.int .i64 n]=>dH n∧k (.str (gx n)) σ
 | _=>False
def CR [Env]:=kS 269 MH zE
end Go.Proofs.YtbajncpfmemdgaaGreatDoor
end
section
namespace Go.Proofs.YtbajncpfmemdgaaGreatDoor
open Go Go.Ev
def zG:Nat→List Nat:=(fun i=>match i with | 0=>[0,4,5,23,24,25] | _=>[])
abbrev Tk [Env] (A:Nat→List SV→Prop) (Q:V→Prop) (s:List UInt8):Prop:=
 ((.i64:IntKind)=.i64∧af (decide ((((len s:Nat):Int))≥(20:Int))) (Q (.tuple [.int .i64 (0:Int),.int .i64 (7:Int)])) ((len s≤1099511627776∧(((len s)=(len s)∧1=1)∧A 0 [.val (.str s),.val (.str s),.val (.int .u64 (0:Int)),.row (len s) (dx s) 1,.val (.int .i64 (((len s:Nat):Int))),.val (.int .i64 (0:Int))]))))
theorem aaD [Env] (A:Nat→List SV→Prop) (Q:V→Prop) (s:List UInt8):WE Tryz.prog 271 Tryz.f271 CR 0 zG A (fun v _=>Q v) [.str s] Go.Ev.start=
  (af (decide (s≠[])) (((0≤(0:Int)∧(0:Int)<((len s:Nat):Int))∧((.u8:IntKind)=.u8∧af (decide ((jb s (0:Int))=(45:Int))) (((0≤(1:Int)∧(1:Int)≤((len s:Nat):Int)∧((len s:Nat):Int)≤((len s:Nat):Int))∧((.i64:IntKind)=.i64∧af (decide ((((len (dq (1:Int).toNat (dB s ((len s:Nat):Int).toNat)):Nat):Int))≥(20:Int))) (Q (.tuple [.int .i64 (0:Int),.int .i64 (7:Int)])) ((len (dq (1:Int).toNat (dB s ((len s:Nat):Int).toNat))≤1099511627776∧(((len (dq (1:Int).toNat (dB s ((len s:Nat):Int).toNat)))=(len (dq (1:Int).toNat (dB s ((len s:Nat):Int).toNat)))∧1=1)∧A 0 [.val (.str s),.val (.str (dq (1:Int).toNat (dB s ((len s:Nat):Int).toNat))),.val (.int .u64 (0:Int)),.row (len (dq (1:Int).toNat (dB s ((len s:Nat):Int).toNat))) (dx (dq (1:Int).toNat (dB s ((len s:Nat):Int).toNat))) 1,.val (.int .i64 (((len (dq (1:Int).toNat (dB s ((len s:Nat):Int).toNat)):Nat):Int))),.val (.int .i64 (0:Int))])))))) ((Tk A Q s))))) ((Tk A Q s))):=by kernel_rfl
theorem aaE [Env] (A:Nat→List SV→Prop) (Q:V→Prop) (s t:List UInt8) (m n i:Int):WL Tryz.prog 271 Tryz.f271 CR 0 zG A (fun v _=>Q v) 0 [.val (.str s),.val (.str t),.val (.int .u64 m),.row (len t) (dx t) 1,.val (.int .i64 n),.val (.int .i64 i)]=
  (((.i64:IntKind)=.i64∧af (decide (i<n)) (((0≤i∧i<((len t:Nat):Int))∧(i.toNat<len t∧((.u8:IntKind)=.u8∧af (decide ((aH t i.toNat)<(48:Int))) (Q (.tuple [.int .i64 (0:Int),.int .i64 (7:Int)])) (((.u8:IntKind)=.u8∧af (decide ((aH t i.toNat)>(57:Int))) (Q (.tuple [.int .i64 (0:Int),.int .i64 (7:Int)])) ((((len t)=(len t)∧1=1)∧A 0 [.val (.str s),.val (.str t),.val (.int .u64 (IntKind.u64.wrap ((IntKind.u64.wrap (m*(10:Int)))+(IntKind.u64.wrap (IntKind.u8.wrap ((aH t i.toNat)-(48:Int))))))),.row (len t) (dx t) 1,.val (.int .i64 n),.val (.int .i64 (IntKind.i64.wrap (i+(1:Int))))])))))))) (((.i64:IntKind)=.i64∧af (decide ((((len t:Nat):Int))<(((len s:Nat):Int)))) ((dH (IntKind.i64.wrap (IntKind.u64.wrap ((0:Int)-m)))∧af (decide (gx (IntKind.i64.wrap (IntKind.u64.wrap ((0:Int)-m)))≠s)) (Q (.tuple [.int .i64 (0:Int),.int .i64 (7:Int)])) (Q (.tuple [.int .i64 (IntKind.i64.wrap (IntKind.u64.wrap ((0:Int)-m))),.int .i64 (0:Int)])))) ((dH (IntKind.i64.wrap m)∧af (decide (gx (IntKind.i64.wrap m)≠s)) (Q (.tuple [.int .i64 (0:Int),.int .i64 (7:Int)])) (Q (.tuple [.int .i64 (IntKind.i64.wrap m),.int .i64 (0:Int)])))))))):=by kernel_rfl
def MI [Env] (vs:List V) (σ:St) (k:ah):Prop:=
 match vs with
 | [.str s]=>k (.tuple [.int .i64 (kP s),.int .i64 (jL s)]) σ
 | _=>False
def Ig [Env]:=kS 271 MI CR
end Go.Proofs.YtbajncpfmemdgaaGreatDoor
end
section
namespace Go.Proofs.YtbajncpfmemdgaaGreatDoor
open Go Go.Ev Go.IntWalk
theorem F253:bU Tryz.prog 253 Tryz.f253:=.of (by kernel_rfl) (by kernel_rfl)
theorem F251:bU Tryz.prog 251 Tryz.f251:=.of (by kernel_rfl) (by kernel_rfl)
theorem F252:bU Tryz.prog 252 Tryz.f252:=.of (by kernel_rfl) (by kernel_rfl)
theorem F265:bU Tryz.prog 265 Tryz.f265:=.of (by kernel_rfl) (by kernel_rfl)
theorem F266:bU Tryz.prog 266 Tryz.f266:=.of (by kernel_rfl) (by kernel_rfl)
theorem F268:bU Tryz.prog 268 Tryz.f268:=.of (by kernel_rfl) (by kernel_rfl)
theorem F269:bU Tryz.prog 269 Tryz.f269:=.of (by kernel_rfl) (by kernel_rfl)
def MJ (x:Int):Nat→List SV
 | 0=>[.val (.int .u64 x),.box [.int .u8 (0:Int),.int .u8 (0:Int),.int .u8 (0:Int),.int .u8 (0:Int),.int .u8 (0:Int),.int .u8 (0:Int),.int .u8 (0:Int),.int .u8 (0:Int)],.val (.int .i64 (0:Int))]
 | 1=>[.val (.int .u64 x),.box [.int .u8 (cM x 56),.int .u8 (0:Int),.int .u8 (0:Int),.int .u8 (0:Int),.int .u8 (0:Int),.int .u8 (0:Int),.int .u8 (0:Int),.int .u8 (0:Int)],.val (.int .i64 (1:Int))]
 | 2=>[.val (.int .u64 x),.box [.int .u8 (cM x 56),.int .u8 (cM x 48),.int .u8 (0:Int),.int .u8 (0:Int),.int .u8 (0:Int),.int .u8 (0:Int),.int .u8 (0:Int),.int .u8 (0:Int)],.val (.int .i64 (2:Int))]
 | 3=>[.val (.int .u64 x),.box [.int .u8 (cM x 56),.int .u8 (cM x 48),.int .u8 (cM x 40),.int .u8 (0:Int),.int .u8 (0:Int),.int .u8 (0:Int),.int .u8 (0:Int),.int .u8 (0:Int)],.val (.int .i64 (3:Int))]
 | 4=>[.val (.int .u64 x),.box [.int .u8 (cM x 56),.int .u8 (cM x 48),.int .u8 (cM x 40),.int .u8 (cM x 32),.int .u8 (0:Int),.int .u8 (0:Int),.int .u8 (0:Int),.int .u8 (0:Int)],.val (.int .i64 (4:Int))]
 | 5=>[.val (.int .u64 x),.box [.int .u8 (cM x 56),.int .u8 (cM x 48),.int .u8 (cM x 40),.int .u8 (cM x 32),.int .u8 (cM x 24),.int .u8 (0:Int),.int .u8 (0:Int),.int .u8 (0:Int)],.val (.int .i64 (5:Int))]
 | 6=>[.val (.int .u64 x),.box [.int .u8 (cM x 56),.int .u8 (cM x 48),.int .u8 (cM x 40),.int .u8 (cM x 32),.int .u8 (cM x 24),.int .u8 (cM x 16),.int .u8 (0:Int),.int .u8 (0:Int)],.val (.int .i64 (6:Int))]
 | 7=>[.val (.int .u64 x),.box [.int .u8 (cM x 56),.int .u8 (cM x 48),.int .u8 (cM x 40),.int .u8 (cM x 32),.int .u8 (cM x 24),.int .u8 (cM x 16),.int .u8 (cM x 8),.int .u8 (0:Int)],.val (.int .i64 (7:Int))]
 | 8=>[.val (.int .u64 x),.box [.int .u8 (cM x 56),.int .u8 (cM x 48),.int .u8 (cM x 40),.int .u8 (cM x 32),.int .u8 (cM x 24),.int .u8 (cM x 16),.int .u8 (cM x 8),.int .u8 (cM x 0)],.val (.int .i64 (8:Int))]
 | _=>[]
section
variable [Env] [aC] {vs:List V} {σ:St} {k:ah}
omit [Env] [aC] in
theorem aaF {a b:Int} (h:(1≤a∧a≤5)∧(1≤b∧b≤5)∧¬(a=1∧b=4)∧¬(a=4∧b=1)∧¬(a=3∧b=5)∧¬(a=5∧b=3)):V.bool true=.bool (il a b):=by unfold il;rw[decide_eq_true h]
omit [Env] [aC] in
theorem aaG {a b:Int} (h:¬((1≤a∧a≤5)∧(1≤b∧b≤5)∧¬(a=1∧b=4)∧¬(a=4∧b=1)∧¬(a=3∧b=5)∧¬(a=5∧b=3))):V.bool false=.bool (il a b):=by unfold il;rw[decide_eq_false h]
theorem Qf (h:MB vs σ k):ag Tryz.prog 253 vs k σ:=by
 unfold MB at h
 split at h
 ·rename_i a b
  refine ag.eG (aA (Go.Ev.Clean.int _ _) (aA (Go.Ev.Clean.int _ _) bm)) (.bool _) (F253.flat (live:=Fp) (call:=H9) (n₀:=0) (σ:=Go.Ev.start) (fun h=>Fo h) rfl (by kernel_rfl) ?_) h
  rw[aau];unfold KK
  repeat' first
   | exact aaF (by omega)
   | exact aaG (by omega)
   | refine⟨rfl,av (fun _=>?_) (fun _=>?_)⟩
 ·exact h.elim
theorem Fv:∀ {f:FuncId} {vs:List V} {σ:St} {k:ah},Ia f vs σ k→ag Tryz.prog f vs k σ:=fun h=>aP Qf Fo h
theorem Qg (h:MC vs σ k):ag Tryz.prog 251 vs k σ:=by
 unfold MC at h
 split at h
 ·rename_i e
  refine(ag.Bn (Q:=fun u=>u=.func (.func 265) [] [.aM [.int .i64 e] 0]) (ax (Go.Ev.Clean.int _ _) cz) (F251.flat (live:=Fq) (call:=Ia) (n₀:=0) (σ:=Go.Ev.start) (fun h=>Fv h) rfl (by kernel_rfl) ?_)).mono fun v τ ⟨h1,h2⟩=>by subst h1;subst h2;exact h
  rw[aav]
  exact⟨_,.func .nil (.cons (.Cw (n:=1) (cs:=[.int .i64 e]) (by rfl) (.cons (.int _ _) .nil)) .nil),rfl⟩
 ·exact h.elim
theorem Fw:∀ {f:FuncId} {vs:List V} {σ:St} {k:ah},Ib f vs σ k→ag Tryz.prog f vs k σ:=fun h=>aP Qg Fv h
theorem Qh (h:MD vs σ k):ag Tryz.prog 252 vs k σ:=by
 unfold MD at h
 split at h
 ·rename_i a b c s
  refine(ag.Bn (Q:=fun u=>u=.func (.func 266) [] [.aM [.int .i64 a,.int .i64 b,.int .u64 c,.str s] 0]) (ax (ay.aG ⟨a,b,c,s⟩) cz) (F252.flat (live:=Fs) (call:=Ib) (n₀:=0) (σ:=Go.Ev.start) (fun h=>Fw h) rfl (by kernel_rfl) ?_)).mono fun v τ ⟨h1,h2⟩=>by subst h1;subst h2;exact h
  rw[aaw]
  exact⟨_,.func .nil (.cons (.Cw (n:=4) (cs:=[.int .i64 a,.int .i64 b,.int .u64 c,.str s]) (by rfl) (.cons (.int _ _) (.cons (.int _ _) (.cons (.int _ _) (.cons (.str _) .nil))))) .nil),rfl⟩
 ·exact h.elim
theorem Fx:∀ {f:FuncId} {vs:List V} {σ:St} {k:ah},Ic f vs σ k→ag Tryz.prog f vs k σ:=fun h=>aP Qh Fw h
theorem Qi (h:ME vs σ k):ag Tryz.prog 265 vs k σ:=by
 unfold ME at h
 split at h
 ·rename_i e
  refine ag.eG (aA (Go.Ev.Clean.aM (ax (Go.Ev.Clean.int _ _) cz)) bm) (.tuple (bX (.agg (bX (.int _ _) (bX (.int _ _) (bX (.int _ _) (bX (.str _) ik))))) (bX (.int _ _) ik))) (F265.flat (live:=Ft) (call:=Ic) (n₀:=0) (σ:=Go.Ev.start) (fun h=>Fx h) rfl (by kernel_rfl) ?_) h
  rw[aax]
 ·exact h.elim
theorem Fy:∀ {f:FuncId} {vs:List V} {σ:St} {k:ah},Ie f vs σ k→ag Tryz.prog f vs k σ:=fun h=>aP Qi Fx h
theorem Qj (h:MF vs σ k):ag Tryz.prog 266 vs k σ:=by
 unfold MF at h
 split at h
 ·rename_i a b c s
  refine ag.eG (aA (Go.Ev.Clean.aM (ay.clean ⟨a,b,c,s⟩)) bm) (.tuple (bX (.agg (bX (.int _ _) (bX (.int _ _) (bX (.int _ _) (bX (.str _) ik))))) (bX (.int _ _) ik))) (F266.flat (live:=Fu) (call:=Ie) (n₀:=0) (σ:=Go.Ev.start) (fun h=>Fy h) rfl (by kernel_rfl) ?_) h
  rw[aay]
 ·exact h.elim
theorem Fz:∀ {f:FuncId} {vs:List V} {σ:St} {k:ah},mF f vs σ k→ag Tryz.prog f vs k σ:=fun h=>aP Qj Fy h
def aaH (x:Int):Nat→List SV→Prop
 | 0,ss=>∃i:Nat,i≤8∧ss=MJ x i
 | _,_=>False
omit [aC] in
theorem Ih (x:Int):∀i,∀s∈MJ x i,s.clean:=by
 intro i
 unfold MJ
 split<;>first
  | exact bM
  | exact aE (aw (ax (Go.Ev.Clean.int _ _) (ax (Go.Ev.Clean.int _ _) (ax (Go.Ev.Clean.int _ _) (ax (Go.Ev.Clean.int _ _) (ax (Go.Ev.Clean.int _ _) (ax (Go.Ev.Clean.int _ _) (ax (Go.Ev.Clean.int _ _) (ax (Go.Ev.Clean.int _ _) cz)))))))) (aE bM))
theorem Qk (h:MG vs σ k):ag Tryz.prog 268 vs k σ:=by
 unfold MG at h
 split at h
 ·rename_i x
  refine ag.eG (aA (Go.Ev.Clean.int _ _) bm) (.str _) (F268.cx (live:=im) (call:=mF) (n₀:=0) (σ:=Go.Ev.start) (fun h=>Fz h) rfl 1 (by kernel_rfl) Nat.lt_wfRel.wf (fun _ ss=>8-cu ss) (aaH x) ?_ ?_ ?_) h
  ·intro k ss hI
   cases k with
   | zero=>obtain⟨i,_,rfl⟩:=hI;exact Ih x i
   | succ k=>exact hI.elim
  ·rw[aaz]
   exact⟨0,by omega,rfl⟩
  ·intro k hk ss hI
   obtain rfl:k=0:=by omega
   obtain⟨i,hi,rfl⟩:=hI
   match i,hi with
   | 0,_=>exact(Ta _ _ x fun j=>cM x (56-8*j)).mpr ⟨rfl,by decide,⟨1,by decide,rfl⟩,(by show(8-1:Nat)<8-0;decide)⟩
   | 1,_=>exact(Tb _ _ x fun j=>cM x (56-8*j)).mpr ⟨rfl,by decide,⟨2,by decide,rfl⟩,(by show(8-2:Nat)<8-1;decide)⟩
   | 2,_=>exact(Tc _ _ x fun j=>cM x (56-8*j)).mpr ⟨rfl,by decide,⟨3,by decide,rfl⟩,(by show(8-3:Nat)<8-2;decide)⟩
   | 3,_=>exact(Td _ _ x fun j=>cM x (56-8*j)).mpr ⟨rfl,by decide,⟨4,by decide,rfl⟩,(by show(8-4:Nat)<8-3;decide)⟩
   | 4,_=>exact(Te _ _ x fun j=>cM x (56-8*j)).mpr ⟨rfl,by decide,⟨5,by decide,rfl⟩,(by show(8-5:Nat)<8-4;decide)⟩
   | 5,_=>exact(Tf _ _ x fun j=>cM x (56-8*j)).mpr ⟨rfl,by decide,⟨6,by decide,rfl⟩,(by show(8-6:Nat)<8-5;decide)⟩
   | 6,_=>exact(Tg _ _ x fun j=>cM x (56-8*j)).mpr ⟨rfl,by decide,⟨7,by decide,rfl⟩,(by show(8-7:Nat)<8-6;decide)⟩
   | 7,_=>exact(Th _ _ x fun j=>cM x (56-8*j)).mpr ⟨rfl,by decide,⟨8,by decide,rfl⟩,(by show(8-8:Nat)<8-7;decide)⟩
   | 8,_=>exact(Ti _ _ x fun j=>cM x (56-8*j)).mpr ⟨rfl,rfl⟩
 ·exact h.elim
theorem FA:∀ {f:FuncId} {vs:List V} {σ:St} {k:ah},zE f vs σ k→ag Tryz.prog f vs k σ:=fun h=>aP Qk Fz h
end
end Go.Proofs.YtbajncpfmemdgaaGreatDoor
end
section
namespace Go.Proofs.YtbajncpfmemdgaaGreatDoor
open Go Go.Ev Go.IntWalk
theorem F271:bU Tryz.prog 271 Tryz.f271:=.of (by kernel_rfl) (by kernel_rfl)
theorem AN {x:Int} (h0:0≤x) (h1:x<18446744073709551616):IntKind.u64.wrap x=x:=by rw[wrap_u64];exact Int.emod_eq_of_lt h0 h1
theorem Yw {x:Int} (h0:0≤x) (h1:x<256):IntKind.u8.wrap x=x:=by
 unfold IntKind.wrap
 show(if (false&&_)=true then _ else x%256)=_
 exact Int.emod_eq_of_lt h0 h1
theorem c48 {m:Nat} (h:m<10):UInt8.ofNat (IntKind.u8.wrap (IntKind.u64.wrap ((48:Int)+(m:Int)))).toNat=byteOf ((48+m:Nat):Int):=by
 rw[AN (by omega) (by omega),Yw (by omega) (by omega),show(48:Int)+(m:Int)=((48+m:Nat):Int) by omega];rfl
theorem WY (m:Nat):((m:Int)).tmod (10:Int)=((m%10:Nat):Int):=by rw[Int.tmod_eq_emod_of_nonneg (by omega)];omega
theorem Pn {m:Nat} (h:m<18446744073709551616):IntKind.u64.wrap (((m:Int)).tdiv (10:Int))=((m/10:Nat):Int):=by
 rw[Int.tdiv_eq_ediv_of_nonneg (by omega),AN (by omega) (by omega)];omega
theorem sv:∀(f:Nat) {m:Nat},m<10→eO f m=[byteOf ((48+m:Nat):Int)]
 | 0,_,_=>rfl
 | _+1,_,h=>by rw[eO,if_pos h]
theorem AO:∀(f g:Nat) {m:Nat},m<10^(f+1)→m<10^(g+1)→eO f m=eO g m
 | 0,g,m,h,_=>by rw[sv g (by omega)];rfl
 | f+1,0,m,_,h=>by rw[sv (f+1) (by omega)];rfl
 | f+1,g+1,m,h1,h2=>by
  unfold eO
  split
  ·rfl
  ·rw[Nat.pow_succ] at h1 h2
   rw[AO f g (Nat.div_lt_of_lt_mul (by omega)) (Nat.div_lt_of_lt_mul (by omega))]
theorem MK {m:Nat} (h:10≤m) (hm:m<1000000000000000000000):eO 20 m=eO 20 (m/10)++[byteOf ((48+m%10:Nat):Int)]:=by
 rw[show eO 20 m=eO 19 (m/10)++[byteOf ((48+m%10:Nat):Int)] by rw[eO,if_neg (by omega)],AO 19 20 (by show m/10<100000000000000000000;omega) (by show m/10<1000000000000000000000;omega)]
theorem Ql {m:Nat} (h:m<10):eO 20 m=[byteOf ((48+m:Nat):Int)]:=sv 20 h
noncomputable def dv (t:List UInt8):Nat→Int
 | 0=>0
 | i+1=>dv t i*10+(aH t i-48)
theorem FB (t u:List UInt8):∀i,i≤t.length→dv (t++u) i=dv t i
 | 0,_=>rfl
 | i+1,h=>by unfold dv;rw[FB t u i (by omega),su (by omega)]
structure pN (m:Nat) (t:List UInt8):Prop where
 len:0<t.length
 small:∀k,0<k→m<10^k→t.length≤k
 Po:∀i,i<t.length→48≤aH t i∧aH t i≤57
 val:dv t t.length=m
theorem ub {x:Nat} (h:x<10):aH [byteOf ((48+x:Nat):Int)] 0=((48+x:Nat):Int):=by
 rw[iC (by simp)];exact pL (by omega) (by omega)
theorem yB {m:Nat} (h:m<10):pN m [byteOf ((48+m:Nat):Int)] where
 len:=by simp
 small:=fun k hk _=>hk
 Po:=fun i hi=>by
  obtain rfl:i=0:=by simpa using hi
  rw[ub h];omega
 val:=by
  show(0*10+(aH [byteOf ((48+m:Nat):Int)] 0-48):Int)=m
  rw[ub h];omega
theorem FC:∀(f m:Nat),m<10^(f+1)→pN m (eO f m)
 | 0,m,h=>yB (by omega)
 | f+1,m,h=>by
  unfold eO
  split
  ·rename_i h;exact yB h
  ·rename_i kg
   rw[Nat.pow_succ] at h
   have ih:=FC f (m/10) (Nat.div_lt_of_lt_mul (by omega))
   have hl:(eO f (m/10)++[byteOf ((48+m%10:Nat):Int)]).length=(eO f (m/10)).length+1:=by simp
   have hb:aH (eO f (m/10)++[byteOf ((48+m%10:Nat):Int)]) (eO f (m/10)).length=((48+m%10:Nat):Int):=by
    rw[wH (Nat.le_refl _) (by simp),Nat.sub_self,ub (by omega)]
   refine⟨by omega,fun k hk hm=>?_,fun i hi=>?_,?_⟩
   ·match k,hk,hm with
    | 1,_,hm=>omega
    | k+2,_,hm=>
     rw[Nat.pow_succ] at hm
     have:=ih.small (k+1) (by omega) (Nat.div_lt_of_lt_mul (by omega))
     omega
   ·by_cases he:i=(eO f (m/10)).length
    ·rw[he,hb];omega
    ·rw[su (by omega)];exact ih.Po i (by omega)
   ·rw[hl,dv,FB _ _ _ (Nat.le_refl _),ih.val,hb];omega
structure WZ (n:Int) (s:List UInt8):Prop where
 neg:n<0→∃t,s=byteOf 45::t∧pN n.natAbs t
 pos:¬n<0→pN n.natAbs s
theorem zH {n:Int} (h:dH n):WZ n (gx n):=by
 have hd:=FC 20 n.natAbs (by have:=h.1;have:=h.2;show n.natAbs<1000000000000000000000;omega)
 exact⟨fun h0=>⟨_,by unfold gx;rw[if_pos h0];rfl,hd⟩,fun h0=>by unfold gx;rw[if_neg h0];exact hd⟩
theorem sw (c:UInt8) (t:List UInt8):aH (c::t) 0=(c.toNat:Int):=by rw[iC (by simp)];rfl
theorem pN.head {m:Nat} {t:List UInt8} (h:pN m t):aH t 0≠45:=by have:=h.Po 0 h.len;omega
theorem dash (t:List UInt8):aH (byteOf 45::t) 0=45:=by rw[sw];exact pL (by decide) (by decide)
theorem ML {n m:Int} (hn:dH n) (hm:dH m) (h:gx n=gx m):n=m:=by
 have dn:=zH hn
 have dm:=zH hm
 rw[h] at dn
 by_cases h0:n<0
 ·obtain⟨t,e1,d1⟩:=dn.neg h0
  by_cases h1:m<0
  ·obtain⟨u,e2,d2⟩:=dm.neg h1
   rw[e1] at e2
   cases e2
   have:=d1.val.symm.trans d2.val
   omega
  ·have:=(dm.pos h1).head
   rw[e1,dash] at this
   exact(this rfl).elim
 ·by_cases h1:m<0
  ·obtain⟨u,e2,d2⟩:=dm.neg h1
   have:=(dn.pos h0).head
   rw[e2,dash] at this
   exact(this rfl).elim
  ·have:=(dn.pos h0).val.symm.trans (dm.pos h1).val
   omega
theorem Qm {s:List UInt8} {n:Int} (hn:dH n) (h:gx n=s):kP s=n∧jL s=0:=by
 have hp:xd s:=⟨n,hn,h⟩
 constructor
 ·unfold kP
  rw[dif_pos hp]
  exact ML (Classical.choose_spec hp).1 hn ((Classical.choose_spec hp).2.trans h.symm)
 ·unfold jL;rw[if_pos hp]
theorem CS {s:List UInt8} (h:¬xd s):kP s=0∧jL s=7:=by
 constructor
 ·unfold kP;rw[dif_neg h]
 ·unfold jL;rw[if_neg h]
theorem Ii {s:List UInt8} {n e:Int} (h:kP s=n∧jL s=e):V.tuple [.int .i64 n,.int .i64 e]=.tuple [.int .i64 (kP s),.int .i64 (jL s)]:=by rw[h.1,h.2]
structure oZ (n:Int) (i M:Nat) (c:Nat→Int):Prop where
 small:M<10^(i-1)
 first:i=20→M=n.natAbs
 rest:i<20→eO 20 n.natAbs=(if M=0 then [] else eO 20 M)++lc c i
theorem Tl (c:Nat→Int) (i:Nat) (x:Int) (hi:i<20):lc (put c i x) i=UInt8.ofNat x.toNat::lc c (i+1):=by
 unfold lc
 rw[List.drop_eq_getElem_cons (by simp;omega)]
 simp only[List.map_cons,List.getElem_range]
 congr 1
 ·unfold put;rw[if_pos rfl]
 ·refine List.map_congr_left fun j hj=>?_
  unfold put
  rw[if_neg]
  intro e
  obtain⟨q,hq,e2⟩:=List.mem_iff_getElem.mp hj
  simp at e2
  omega
theorem oZ.step {n:Int} {i M:Nat} {c:Nat→Int} (h:oZ n i M c) (h0:1≤i) (h1:i≤20) (hM:i=20∨M≠0) (hb:M≤9223372036854775808):
  2≤i∧oZ n (i-1) (M/10) (put c (i-1) (IntKind.u8.wrap (IntKind.u64.wrap ((48:Int)+(((M:Nat):Int)).tmod (10:Int))))):=by
 have hi:2≤i:=by
  rcases hM with e | e
  ·omega
  ·refine Classical.byContradiction fun c=>?_
   obtain rfl:i=1:=by omega
   have:=h.small
   omega
 refine⟨hi,⟨?_,fun e=>by omega,fun _=>?_⟩⟩
 ·have:=h.small
  rw[show i-1=i-1-1+1 by omega,Nat.pow_succ] at this
  exact Nat.div_lt_of_lt_mul (by omega)
 ·rw[Tl _ _ _ (by omega),show i-1+1=i by omega,WY,c48 (by omega)]
  have hd:eO 20 M=(if M/10=0 then [] else eO 20 (M/10))++[byteOf ((48+M%10:Nat):Int)]:=by
   by_cases kg:M<10
   ·rw[Ql kg,if_pos (by omega),Nat.mod_eq_of_lt kg];rfl
   ·rw[if_neg (by omega),MK (by omega) (by omega)]
  by_cases Yx:i=20
  ·subst Yx
   rw[←h.first rfl,hd,show lc c 20=[] from rfl]
  ·have hr:=h.rest (by omega)
   have hM0:M≠0:=hM.resolve_left Yx
   rw[if_neg hM0,hd,List.append_assoc] at hr
   exact hr
theorem oZ.last {n:Int} {i M:Nat} {c:Nat→Int} (h:oZ n i M c) (h1:i<20) (h0:M=0):eO 20 n.natAbs=lc c i:=by
 have:=h.rest h1
 rw[if_pos h0] at this
 exact this
def aaI (n:Int):Nat→List SV→Prop
 | 0,ss=>∃(i M:Nat) (c:Nat→Int),(1≤i∧i≤20∧M≤9223372036854775808)∧ss=zF n ((M:Nat):Int) c i∧oZ n i M c
 | _,_=>False
section
variable [Env] [aC] {vs:List V} {σ:St} {k:ah}
omit [aC] in
theorem Ij (n m:Int) (c:Nat→Int) (i:Nat):∀s∈zF n m c i,s.clean:=by
 unfold zF
 exact aE (aE (aw (fun u hu=>by
  obtain⟨j,_,rfl⟩:=List.mem_map.1 hu
  exact Go.Ev.Clean.int _ _) (aE bM)))
omit [Env] [aC] in
theorem KL {c:Nat→Int} {n:Int} {i:Nat} (h:gx n=(if n<0 then [UInt8.ofNat (45:Int).toNat] else [])++lc c i):(n<0→gx n=UInt8.ofNat (45:Int).toNat::lc c i)∧(¬n<0→gx n=lc c i):=
 ⟨fun h3=>by rw[h,if_pos h3];rfl,fun h3=>by rw[h,if_neg h3];rfl⟩
theorem Qn (h:MH vs σ k):ag Tryz.prog 269 vs k σ:=by
 unfold MH at h
 split at h
 ·rename_i n
  obtain⟨hn,h⟩:=h
  have hN:n.natAbs≤9223372036854775808:=by have:=hn.1;have:=hn.2;omega
  refine ag.eG (aA (Go.Ev.Clean.int _ _) bm) (.str _) (F269.cx (live:=vt) (call:=zE) (n₀:=0) (σ:=Go.Ev.start) (fun h=>FA h) rfl 1 (by kernel_rfl) Nat.lt_wfRel.wf (fun _ ss=>cu ss) (aaI n) ?_ ?_ ?_) h
  ·intro k ss hI
   cases k with
   | zero=>obtain⟨i,M,c,_,rfl,_⟩:=hI;exact Ij _ _ _ _
   | succ k=>exact hI.elim
  ·rw[aaB]
   have hI:oZ n 20 n.natAbs (fun _=>0):=⟨by show n.natAbs<10000000000000000000;omega,fun _=>rfl,fun h=>by omega⟩
   refine⟨rfl,av (fun h2=>⟨20,n.natAbs,_,⟨by decide,by decide,hN⟩,?_,hI⟩) fun h2=>⟨20,n.natAbs,_,⟨by decide,by decide,hN⟩,?_,hI⟩⟩
   ·rw[wrap_u64,wrap_u64,show(0-n%18446744073709551616)%18446744073709551616=((n.natAbs:Nat):Int) by have:=hn.1;omega];rfl
   ·rw[wrap_u64,show n%18446744073709551616=((n.natAbs:Nat):Int) by have:=hn.2;omega];rfl
  ·intro k hk ss hI
   obtain rfl:k=0:=by omega
   obtain⟨i,M,c,⟨h0,h1,hM⟩,rfl,hI⟩:=hI
   have fin:i<20→M=0→gx n=(if n<0 then [UInt8.ofNat (45:Int).toNat] else [])++lc c i:=fun h2 h3=>by unfold gx;rw[hI.last h2 h3];rfl
   by_cases Tm:i=20
   ·subst Tm
    have hs:=hI.step h0 h1 (.inl rfl) hM
    exact(Qe _ _ n ((M:Nat):Int) c).mpr ⟨rfl,⟨rfl,by decide⟩,⟨rfl,by decide⟩,⟨19,M/10,_,⟨by omega,by omega,by omega⟩,by rw[Pn (by omega)],hs.2⟩,(by show(19:Nat)<20;decide)⟩
   ·rw[aaC _ _ _ _ _ i h0 (by omega)]
    refine⟨rfl,rfl,av (fun h2=>?_) fun h2=>⟨rfl,av (fun h3=>?_) fun h3=>?_⟩⟩
    ·have hs:=hI.step h0 h1 (.inr (by omega)) hM
     exact⟨⟨rfl,by decide⟩,⟨rfl,by decide⟩,⟨i-1,M/10,_,⟨by omega,by omega,by omega⟩,by rw[Pn (by omega)],hs.2⟩,(by show i-1<i;omega)⟩
    ·rw[(KL (fin (by omega) (by omega))).1 h3]
    ·rw[(KL (fin (by omega) (by omega))).2 h3]
 ·exact h.elim
theorem FD:∀ {f:FuncId} {vs:List V} {σ:St} {k:ah},CR f vs σ k→ag Tryz.prog f vs k σ:=fun h=>aP Qn FA h
end
end Go.Proofs.YtbajncpfmemdgaaGreatDoor
end
section
namespace Go.Proofs.YtbajncpfmemdgaaGreatDoor
open Go Go.Ev Go.IntWalk
theorem yC (x:Int):IntKind.i64.wrap x=Int.bmod x 18446744073709551616:=by
 unfold IntKind.wrap Int.bmod
 show(if (true&&_)=true then x%18446744073709551616-18446744073709551616 else x%18446744073709551616)=if x%18446744073709551616<(18446744073709551616+1)/2 then x%18446744073709551616 else x%18446744073709551616-18446744073709551616
 simp only[Bool.true_and,decide_eq_true_eq]
 show(if (9223372036854775808:Int)≤x%18446744073709551616 then _ else _)=_
 split<;>split<;>first | rfl | omega
theorem AP (x:Int):dH (IntKind.i64.wrap x):=by
 rw[yC]
 have h1:=Int.le_bmod (x:=x) (m:=18446744073709551616) (by decide)
 have h2:=Int.bmod_lt (x:=x) (m:=18446744073709551616) (by decide)
 constructor<;>omega
theorem MM {x:Int} (h:dH x):IntKind.i64.wrap x=x:=by
 have:=h.1;have:=h.2
 exact i64_in x (by omega)
def pO (s t:List UInt8):Prop:=(t=s∧∀u,s≠byteOf 45::u)∨s=byteOf 45::t
theorem pO.num {s t:List UInt8} (h:pO s t) (hp:xd s):∃n,dH n∧gx n=s∧pN n.natAbs t∧(n<0↔s=byteOf 45::t):=by
 obtain⟨n,hn,he⟩:=hp
 have hd:=zH hn
 rw[he] at hd
 refine⟨n,hn,he,?_⟩
 by_cases h0:n<0
 ·obtain⟨u,e,d⟩:=hd.neg h0
  rcases h with ⟨_,h⟩ | h
  ·exact(h u e).elim
  ·rw[h] at e;cases e;exact⟨d,fun _=>h,fun _=>h0⟩
 ·have d:=hd.pos h0
  rcases h with ⟨rfl,h⟩ | h
  ·exact⟨d,fun h=>(h0 h).elim,fun e=>(h _ e).elim⟩
  ·have:=d.head;rw[h,dash] at this;exact(this rfl).elim
theorem pO.len {s t:List UInt8} (h:pO s t):(t.length<s.length↔s=byteOf 45::t)∧t.length≤s.length∧s.length≤t.length+1:=by
 rcases h with ⟨rfl,h⟩ | rfl
 ·exact⟨⟨fun c=>by omega,fun e=>(h _ e).elim⟩,by omega,by omega⟩
 ·simp
theorem W0 {n:Int} (hn:dH n) {t:List UInt8} (h:pN n.natAbs t):t.length≤19:=h.small 19 (by decide) (by have:=hn.1;have:=hn.2;show n.natAbs<10000000000000000000;omega)
theorem pO.done {s t:List UInt8} (h:pO s t) {x:Int} (hx:x=IntKind.i64.wrap (if s=byteOf 45::t then -dv t t.length else dv t t.length)):xd s↔gx x=s:=by
 constructor
 ·intro hp
  obtain⟨n,hn,he,hd,hs⟩:=h.num hp
  rw[hd.val] at hx
  have:x=n:=by
   rw[hx]
   refine Eq.trans (congrArg IntKind.i64.wrap ?_) (MM hn)
   by_cases c:s=byteOf 45::t
   ·rw[if_pos c];have:=hs.mpr c;omega
   ·rw[if_neg c];have:¬n<0:=fun c2=>c (hs.mp c2);omega
  rw[this];exact he
 ·intro he
  exact⟨x,by rw[hx];exact AP _,he⟩
theorem pO.ends {s t:List UInt8} (h:pO s t) {x:Int} (hx:x=IntKind.i64.wrap (if s=byteOf 45::t then -dv t t.length else dv t t.length)) {A:V→Prop} (hA:A (.tuple [.int .i64 (kP s),.int .i64 (jL s)])):
  dH x∧af (decide (gx x≠s)) (A (.tuple [.int .i64 0,.int .i64 7])) (A (.tuple [.int .i64 x,.int .i64 0])):=by
 have Yy:dH x:=by rw[hx];exact AP _
 refine⟨Yy,av (fun h1=>?_) fun h1=>?_⟩
 ·rw[Ii (CS fun hp=>h1 ((h.done hx).mp hp))];exact hA
 ·rw[Ii (Qm Yy (Classical.not_not.mp h1))];exact hA
def Tn (s:List UInt8):Nat→List SV→Prop
 | 0,ss=>∃(t:List UInt8) (i:Nat),(pO s t∧t.length<20∧i≤t.length∧∀j,j<i→48≤aH t j∧aH t j≤57)∧
   ss=[.val (.str s),.val (.str t),.val (.int .u64 (dv t i%18446744073709551616)),.row (len t) (dx t) 1,.val (.int .i64 ((t.length:Nat):Int)),.val (.int .i64 ((i:Nat):Int))]
 | _,_=>False
def aaJ:Nat→List SV→Nat:=fun n ss=>n-cu ss
theorem To {s:List UInt8} (h0:s≠[]) (h:aH s 0=45):s=byteOf 45::s.drop 1:=by
 cases s with
 | nil=>exact(h0 rfl).elim
 | cons c t=>
  rw[sw] at h
  rw[show c=byteOf 45 from UInt8.toNat_inj.mp (by show c.toNat=45;omega)];rfl
theorem MN {s:List UInt8} (h:aH s 0≠45):∀u,s≠byteOf 45::u:=fun u e=>h (by rw[e,dash])
theorem hL:(len:List UInt8→Nat)=List.length:=funext fun _=>bc _
theorem KM [Env] {n:Nat} {t:List UInt8} {l:List SV} (hl:∀u∈l,u.clean):∀u∈SV.row n (dx t) 1::l,u.clean:=aw (fun i _ u hu=>by
 rw[show(dx t i).cells=[.int .u8 (aH t i)] from rfl] at hu
 obtain rfl:=List.mem_singleton.mp hu
 exact Go.Ev.Clean.int _ _) hl
section
variable [Env] [aC] {vs:List V} {σ:St} {k:ah}
theorem Qo (h:MI vs σ k):ag Tryz.prog 271 vs k σ:=by
 unfold MI at h
 split at h
 ·rename_i s
  refine ag.eG (aA (Go.Ev.Clean.str _) bm) (.tuple (bX (.int _ _) (bX (.int _ _) ik))) (F271.cx (live:=zG) (call:=CR) (n₀:=0) (σ:=Go.Ev.start) (fun h=>FD h) rfl 1 (by kernel_rfl) Nat.lt_wfRel.wf (fun _ ss=>aaJ 20 ss) (Tn s) ?_ ?_ ?_) h
  ·intro k ss hI
   cases k with
   | zero=>obtain⟨t,i,_,rfl⟩:=hI;exact nw (nw (aE (KM (aE (aE bM)))))
   | succ k=>exact hI.elim
  ·rw[aaD];unfold Tk
   rw[hL]
   have go:∀ {t:List UInt8},pO s t→t.length<20→Tn s 0 [.val (.str s),.val (.str t),.val (.int .u64 (0:Int)),.row t.length (dx t) 1,.val (.int .i64 ((t.length:Nat):Int)),.val (.int .i64 (0:Int))]:=fun {t} h1 h2=>
    ⟨t,0,⟨h1,h2,Nat.zero_le _,fun j hj=>absurd hj (Nat.not_lt_zero _)⟩,by rw[hL];rfl⟩
   have no:∀ {t:List UInt8},pO s t→¬t.length<20→V.tuple [.int .i64 (0:Int),.int .i64 (7:Int)]=.tuple [.int .i64 (kP s),.int .i64 (jL s)]:=fun h1 h2=>Ii (CS fun hp=>by
    obtain⟨n,hn,_,hd,_⟩:=h1.num hp
    have:=W0 hn hd;omega)
   refine av (fun h0=>?_) fun h0=>?_
   ·have hl:0<s.length:=List.length_pos_iff.mpr h0
    refine⟨⟨by omega,by omega⟩,rfl,av (fun h1=>?_) fun h1=>?_⟩
    ·have fM:aH s 0=45:=h1
     have hs:pO s (s.drop 1):=.inr (To h0 fM)
     have ht:dq (1:Int).toNat (dB s ((s.length:Nat):Int).toNat)=s.drop 1:=by
      rw[dU,ew,eP,List.take_length];rfl
     rw[ht]
     refine⟨⟨by omega,by omega,by omega⟩,rfl,av (fun h2=>no hs (by omega)) fun h2=>⟨?_,⟨rfl,rfl⟩,go hs (by omega)⟩⟩
     omega
    ·have hs:pO s s:=.inl ⟨rfl,MN h1⟩
     exact⟨rfl,av (fun h2=>no hs (by omega)) fun h2=>⟨by omega,⟨rfl,rfl⟩,go hs (by omega)⟩⟩
   ·have h0:s=[]:=Classical.not_not.mp h0
    subst h0
    have hs:pO [] []:=.inl ⟨rfl,fun u e=>by cases e⟩
    exact⟨rfl,av (fun h2=>no hs (by have:((([]:List UInt8).length:Nat):Int)=0:=rfl;omega)) fun h2=>⟨by decide,⟨rfl,rfl⟩,go hs (by decide)⟩⟩
  ·intro k hk ss hI
   obtain rfl:k=0:=by omega
   obtain⟨t,i,⟨hs,hl,hi,hd⟩,rfl⟩:=hI
   rw[aaE]
   rw[hL]
   have hr:=qi t i
   have no:¬(48≤aH t i∧aH t i≤57)→i<t.length→V.tuple [.int .i64 (0:Int),.int .i64 (7:Int)]=.tuple [.int .i64 (kP s),.int .i64 (jL s)]:=fun h1 h2=>Ii (CS fun hp=>by
    obtain⟨n,hn,_,hdg,_⟩:=hs.num hp
    exact h1 (hdg.Po i h2))
   refine⟨rfl,av (fun h1=>?_) fun h1=>?_⟩
   ·have fM:i<t.length:=by omega
    refine⟨⟨by omega,h1⟩,fM,rfl,av (fun h2=>no (fun c=>by rw[dU] at h2;omega) fM) fun h2=>⟨rfl,av (fun h3=>no (fun c=>by rw[dU] at h3;omega) fM) fun h3=>?_⟩⟩
    rw[dU] at h2 h3⊢
    refine⟨⟨rfl,rfl⟩,⟨t,i+1,⟨hs,hl,fM,fun j hj=>?_⟩,?_⟩,?_⟩
    ·by_cases e:j=i
     ·subst e;omega
     ·exact hd j (by omega)
    ·rw[Yw (by omega) (by omega),wrap_u64,wrap_u64,wrap_u64,i64_in ((i:Int)+1) (by omega)]
     congr 5
     ·show _=(dv t i*10+(aH t i-48))%18446744073709551616
      omega
     ·exact(bc t).symm
    ·show 20-(IntKind.i64.wrap (((i:Nat):Int)+1)).toNat<20-(((i:Nat):Int)).toNat
     rw[i64_in ((i:Int)+1) (by omega)];omega
   ·obtain rfl:i=t.length:=by omega
    refine⟨rfl,av (fun h2=>?_) fun h2=>?_⟩
    ·refine hs.ends (A:=fun v=>v=V.tuple [.int .i64 (kP s),.int .i64 (jL s)]) ?_ rfl
     rw[if_pos (hs.len.1.mp (by omega)),wrap_u64,yC,yC]
     rw[show(0-dv t t.length%18446744073709551616)%18446744073709551616=(-dv t t.length)%18446744073709551616 by omega]
     exact Int.emod_bmod ..
    ·refine hs.ends (A:=fun v=>v=V.tuple [.int .i64 (kP s),.int .i64 (jL s)]) ?_ rfl
     rw[if_neg (fun c=>h2 (by have:=hs.len.1.mpr c;omega)),yC,yC]
     exact Int.emod_bmod ..
 ·exact h.elim
theorem FE:∀ {f:FuncId} {vs:List V} {σ:St} {k:ah},Ig f vs σ k→ag Tryz.prog f vs k σ:=fun h=>aP Qo FD h
end
end Go.Proofs.YtbajncpfmemdgaaGreatDoor
end
section
set_option exponentiation.threshold 3000
namespace Go.Ev.Flt
open Ieee
def val (s:Bool) (M:Nat) (p:Int):Int:=if s then -((M*2^(p+1074).toNat:Nat):Int) else((M*2^(p+1074).toNat:Nat):Int)
theorem CT (s:Bool) (M a b:Nat):signed s M (a+b)=signed s M a*((2^b:Nat):Int):=by
 unfold signed
 rw[Nat.shiftLeft_eq,Nat.shiftLeft_eq,Nat.pow_add,←Nat.mul_assoc]
 cases s with
 | true=>rw[if_pos rfl,if_pos rfl,Int.neg_mul,←Int.natCast_mul]
 | false=>rw[if_neg Bool.false_ne_true,if_neg Bool.false_ne_true,←Int.natCast_mul]
theorem yD (s:Bool) (M:Nat) (p:Int) (base:Int) (hb:base≤p) (h: -1074≤base):val s M p=signed s M (p-base).toNat*((2^(base+1074).toNat:Nat):Int):=by
 have e:(p+1074).toNat=(p-base).toNat+(base+1074).toNat:=by omega
 rw[←CT,←e]
 unfold val signed
 rw[Nat.shiftLeft_eq]
theorem Ee (x y:Int) (c:Nat) (hc:0<c):compare x y=compare (x*(c:Int)) (y*(c:Int)):=by
 have gB:(0:Int)<(c:Int):=by omega
 rcases Int.lt_trichotomy x y with h | h | h
 ·have h':=Int.mul_lt_mul_of_pos_right h gB
  simp only[compare,compareOfLessAndEq,if_pos h,if_pos h']
 ·subst h;simp only[compare,compareOfLessAndEq,Int.lt_irrefl,if_false]
 ·have h':=Int.mul_lt_mul_of_pos_right h gB
  simp only[compare,compareOfLessAndEq,if_neg (Int.not_lt.mpr (Int.le_of_lt h)),if_neg (Int.not_lt.mpr (Int.le_of_lt h')),if_neg (Int.ne_of_gt h),if_neg (Int.ne_of_gt h')]
theorem pP {s t:Bool} {M N:Nat} {p q:Int} (hp: -1074≤p) (hq: -1074≤q):Datum.order (.number s M p) (.number t N q)=some (compare (val s M p) (val t N q)):=by
 show some (compare (signed s M (p-min p q).toNat) (signed t N (q-min p q).toNat))=_
 rw[Ee _ _ (2^(min p q+1074).toNat) (Nat.two_pow_pos _),←yD s M p (min p q) (by omega) (by omega),←yD t N q (min p q) (by omega) (by omega)]
theorem cmp_eq (x y:Int):(some (compare x y)==some Ordering.eq)=decide (x=y):=by
 by_cases h:x=y
 ·subst h;simp [compare,compareOfLessAndEq]
 ·rw[decide_eq_false h]
  by_cases h':x<y<;>simp [compare,compareOfLessAndEq,h,h']
theorem Tp (x y:Int):(some (compare x y)==some Ordering.lt)=decide (x<y):=by
 by_cases h:x<y
 ·simp [compare,compareOfLessAndEq,h]
 ·rw[decide_eq_false h]
  by_cases h':x=y<;>simp [compare,compareOfLessAndEq,h,h']
theorem Tq (x y:Int):(some (compare x y)==some Ordering.gt||some (compare x y)==some Ordering.eq)=decide (y≤x):=by
 by_cases h:x<y
 ·rw[decide_eq_false (by omega)];simp [compare,compareOfLessAndEq,h]
 ·rw[decide_eq_true (by omega)]
  by_cases h':x=y<;>simp [compare,compareOfLessAndEq,h,h']
theorem CU (s:Bool) (n d:Nat):Toward.zero.cut s n d=n/2^d:=by
 unfold Toward.cut
 simp only[Bool.toNat_false,Nat.add_zero,Nat.one_shiftLeft]
 by_cases h:d≤n.log2+2
 ·rw[Nat.min_eq_left h]
 ·rw[Nat.min_eq_right (by omega)]
  have hn:n<2^(n.log2+2):=Nat.lt_of_lt_of_le Nat.lt_log2_self (Nat.pow_le_pow_right (by decide) (by omega))
  rw[Nat.div_eq_of_lt hn,Nat.div_eq_of_lt (Nat.lt_of_lt_of_le hn (Nat.pow_le_pow_right (by decide) (by omega)))]
theorem Tr {M Q:Nat} {p:Int} (hp: -1074≤p) (h:M*2^(p+1074).toNat=Q*2^1074):(M <<< p.toNat)/2^(-p).toNat=Q:=by
 rw[Nat.shiftLeft_eq]
 by_cases h0:0≤p
 ·have e:(p+1074).toNat=p.toNat+1074:=by omega
  rw[e,Nat.pow_add,←Nat.mul_assoc] at h
  have h':=Nat.eq_of_mul_eq_mul_right (Nat.two_pow_pos 1074) h
  rw[h',show(-p).toNat=0 by omega,Nat.pow_zero,Nat.div_one]
 ·have e:1074=(-p).toNat+(p+1074).toNat:=by omega
  rw[show Q*2^1074=Q*2^((-p).toNat+(p+1074).toNat) by rw[←e],Nat.pow_add,←Nat.mul_assoc] at h
  have h':=Nat.eq_of_mul_eq_mul_right (Nat.two_pow_pos _) h
  rw[show p.toNat=0 by omega,Nat.pow_zero,Nat.mul_one,h',Nat.mul_div_cancel _ (Nat.two_pow_pos _)]
theorem KN {s:Bool} {M Q:Nat} {p:Int} (hp: -1074≤p) (h:M*2^(p+1074).toNat=Q*2^1074):(Datum.number s M p).toInt .zero=some (signed s Q 0):=by
 show some (signed s (Toward.zero.cut s (M <<< p.toNat) (-p).toNat) 0)=_
 rw[CU,Tr hp h]
theorem CV (s:Bool) (r:Nat):double.word s r=(if s then 9223372036854775808 else 0)+r:=by
 unfold Format.word
 cases s
 ·show r=0+r;omega
 ·rfl
theorem wI (s:Bool) (e f:Nat) (he:e≤2045) (hf:f<4503599627370496):double.read (double.word s ((e+1)*4503599627370496+f))=.number s (4503599627370496+f) (-1074+(e:Int)):=by
 rw[CV]
 unfold Format.read
 rw[show double.signWeight=9223372036854775808 from rfl,show double.binade=4503599627370496 from rfl,show double.infRung=9218868437227405312 from rfl,show double.leastPlace= -1074 from rfl]
 have e1:((if s then 9223372036854775808 else 0)+((e+1)*4503599627370496+f))%9223372036854775808=(e+1)*4503599627370496+f:=by cases s<;>simp<;>omega
 have e2:(((if s then 9223372036854775808 else 0)+((e+1)*4503599627370496+f))/9223372036854775808%2==1)=s:=by
  cases s
  ·have:(0+((e+1)*4503599627370496+f))/9223372036854775808%2=0:=by omega
   simp only[Bool.false_eq_true,if_false,this];rfl
  ·have:(9223372036854775808+((e+1)*4503599627370496+f))/9223372036854775808%2=1:=by omega
   simp only[if_true,this];rfl
 have e3:((e+1)*4503599627370496+f)%4503599627370496=f:=by omega
 have e4:((e+1)*4503599627370496+f)/4503599627370496-1=e:=by omega
 dsimp only
 rw[e1,e2,e3,e4,if_neg (by omega),if_pos (by omega)]
def fP (m:Nat):Nat:=if m.log2≤52 then m*2^(52-m.log2) else
 m/2^(m.log2-52)+(decide (2^(m.log2-52)<2*(m%2^(m.log2-52)))||((2^(m.log2-52)==2*(m%2^(m.log2-52)))&&(m/2^(m.log2-52)%2==1))).toNat
theorem oe {m:Nat} (h0:m≠0):4503599627370496≤fP m∧fP m≤9007199254740992∧(m.log2≤52→fP m<9007199254740992):=by
 have h1:2^m.log2≤m:=Nat.log2_self_le h0
 have h2:m<2^(m.log2+1):=Nat.lt_log2_self
 unfold fP
 split
 ·rename_i h
  have a:2^m.log2*2^(52-m.log2)=4503599627370496:=by rw[←Nat.pow_add,show m.log2+(52-m.log2)=52 by omega]
  have b:2^(m.log2+1)*2^(52-m.log2)=9007199254740992:=by rw[←Nat.pow_add,show m.log2+1+(52-m.log2)=53 by omega]
  have c:=Nat.mul_le_mul_right (2^(52-m.log2)) h1
  have d:=Nat.mul_lt_mul_of_pos_right h2 (Nat.two_pow_pos (52-m.log2))
  omega
 ·rename_i h
  have a:2^m.log2=4503599627370496*2^(m.log2-52):=by rw[show(4503599627370496:Nat)=2^52 from rfl,←Nat.pow_add,show 52+(m.log2-52)=m.log2 by omega]
  have b:2^(m.log2+1)=9007199254740992*2^(m.log2-52):=by rw[show(9007199254740992:Nat)=2^53 from rfl,←Nat.pow_add,show 53+(m.log2-52)=m.log2+1 by omega]
  rw[a] at h1
  rw[b] at h2
  have c:4503599627370496≤m/2^(m.log2-52):=(Nat.le_div_iff_mul_le (Nat.two_pow_pos _)).mpr h1
  have d:m/2^(m.log2-52)<9007199254740992:=(Nat.div_lt_iff_lt_mul (Nat.two_pow_pos _)).mpr h2
  have e:=Bool.toNat_le (decide (2^(m.log2-52)<2*(m%2^(m.log2-52)))||((2^(m.log2-52)==2*(m%2^(m.log2-52)))&&(m/2^(m.log2-52)%2==1)))
  exact⟨by omega,by omega,fun h=>by omega⟩
theorem AQ (s:Bool) {m:Nat} (h0:m≠0) (h1:m.log2≤63):double.nearest s m 0=double.word s ((m.log2+1022)*4503599627370496+fP m):=by
 have hk:=oe h0
 unfold Format.nearest
 rw[if_neg h0]
 rw[show double.leastPlace= -1074 from rfl,show double.binade=4503599627370496 from rfl,show double.infRung=9218868437227405312 from rfl,show(double.fractionBits:Int)=52 from rfl]
 have hl:max ((0:Int)+(m.log2:Int)-52) (-1074)=(m.log2:Int)-52:=by omega
 dsimp only
 rw[hl]
 have e1:((m.log2:Int)-52 - -1074).toNat=m.log2+1022:=by omega
 rw[e1]
 have e2:Toward.even.cut s (m <<< ((0:Int)-((m.log2:Int)-52)).toNat) ((m.log2:Int)-52-0).toNat=fP m:=by
  unfold fP Toward.cut
  dsimp only
  by_cases h:m.log2≤52
  ·rw[if_pos h,show((0:Int)-((m.log2:Int)-52)).toNat=52-m.log2 by omega,show((m.log2:Int)-52-0).toNat=0 by omega,Nat.shiftLeft_eq,Nat.zero_min]
   simp only[Nat.shiftLeft_zero,Nat.div_one,Nat.mod_one,Nat.mul_zero]
   rfl
  ·rw[if_neg h,show((0:Int)-((m.log2:Int)-52)).toNat=0 by omega,show((m.log2:Int)-52-0).toNat=m.log2-52 by omega,Nat.shiftLeft_zero]
   rw[show min (m.log2-52) (m.log2+2)=m.log2-52 by omega,Nat.one_shiftLeft]
 rw[e2,Nat.min_eq_left (by omega)]
def lZ (m:Nat):Nat:=if m.log2≤52 then m else fP m*2^(m.log2-52)
theorem MO (s:Bool) {m:Nat} (h0:m≠0) (h1:m.log2≤63):∃M p,double.read (double.nearest s m 0)=.number s M p∧ -1074≤p∧M*2^(p+1074).toNat=lZ m*2^1074∧M≠0:=by
 obtain⟨k1,k2,k3⟩:=oe h0
 rw[AQ s h0 h1]
 have hr:fP m*2^(m.log2+1022)=lZ m*2^1074:=by
  unfold lZ
  split
  ·rename_i h
   unfold fP
   rw[if_pos h,Nat.mul_assoc,←Nat.pow_add,show 52-m.log2+(m.log2+1022)=1074 by omega]
  ·rename_i h
   rw[Nat.mul_assoc,←Nat.pow_add,show m.log2-52+1074=m.log2+1022 by omega]
 by_cases h:fP m<9007199254740992
 ·refine⟨fP m,-1074+((m.log2+1022:Nat):Int),?_,by omega,?_,by omega⟩
  ·rw[show(m.log2+1022)*4503599627370496+fP m=(m.log2+1022+1)*4503599627370496+(fP m-4503599627370496) by omega,wI s _ _ (by omega) (by omega),show 4503599627370496+(fP m-4503599627370496)=fP m by omega]
  ·rw[show(-1074+((m.log2+1022:Nat):Int)+1074).toNat=m.log2+1022 by omega];exact hr
 ·refine⟨4503599627370496,-1074+((m.log2+1023:Nat):Int),?_,by omega,?_,by omega⟩
  ·rw[show(m.log2+1022)*4503599627370496+fP m=(m.log2+1023+1)*4503599627370496+0 by omega,wI s _ _ (by omega) (by omega)]
  ·rw[show(-1074+((m.log2+1023:Nat):Int)+1074).toNat=m.log2+1022+1 by omega,←hr,show fP m=9007199254740992 by omega]
   generalize m.log2+1022=q
   rw[Nat.pow_succ];omega
def o0 (m:Nat):Prop:=m.log2≤52∨m%2^(m.log2-52)=0
instance (m:Nat):Decidable (o0 m):=inferInstanceAs (Decidable (_∨_))
theorem sx {m:Nat} (h:o0 m):lZ m=m:=by
 unfold lZ
 split
 ·rfl
 ·rename_i hl
  have hm:m%2^(m.log2-52)=0:=h.resolve_left hl
  unfold fP
  rw[if_neg hl,hm]
  have p:=Nat.two_pow_pos (m.log2-52)
  rw[show(decide (2^(m.log2-52)<2*0)||((2^(m.log2-52)==2*0)&&(m/2^(m.log2-52)%2==1)))=false by
   rw[decide_eq_false (by omega),show(2^(m.log2-52)==2*0)=false by simp];rfl]
  have:=Nat.div_add_mod m (2^(m.log2-52))
  rw[Nat.mul_comm,hm] at this
  exact this
theorem Qp {m:Nat} (h:¬o0 m):lZ m≠m:=by
 unfold o0 at h
 intro e
 unfold lZ at e
 rw[if_neg (fun c=>h (.inl c))] at e
 exact h (.inr ((congrArg (·% 2^(m.log2-52)) e.symm).trans (Nat.mul_mod_left _ _)))
theorem CW {a b:Int} {K:Nat} (h:0<K):a*(K:Int)≤b*(K:Int)↔a≤b:=by
 constructor
 ·intro h'
  refine Int.not_lt.mp fun c=>?_
  have:=Int.mul_lt_mul_of_pos_right c (show(0:Int)<(K:Int) by omega)
  omega
 ·exact fun h'=>Int.mul_le_mul_of_nonneg_right h' (by omega)
theorem MP {a b:Int} {K:Nat} (h:0<K):a*(K:Int)<b*(K:Int)↔a<b:=by
 rw[←Int.not_le,←Int.not_le,CW h]
theorem ow (s:Bool) (Q:Nat):signed s Q 0=if s then -(Q:Int) else(Q:Int):=by
 unfold signed;rw[Nat.shiftLeft_zero]
theorem vu {s:Bool} {M Q:Nat} {p:Int} (h:M*2^(p+1074).toNat=Q*2^1074):val s M p=signed s Q 0*((2^1074:Nat):Int):=by
 unfold val
 rw[h,ow]
 cases s
 ·simp only[Bool.false_eq_true,if_false,Int.natCast_mul]
 ·simp only[if_true,Int.natCast_mul,Int.neg_mul]
theorem AR:double.read 4890909195324358656=.number false 4503599627370496 11:=by rfl
theorem yE:double.read 14114281232179134464=.number true 4503599627370496 11:=by rfl
theorem KO:4503599627370496*2^((11:Int)+1074).toNat=9223372036854775808*2^1074:=by
 rw[show((11:Int)+1074).toNat=11+1074 by rfl,Nat.pow_add,←Nat.mul_assoc]
theorem Pp:0<2^1074:=Nat.two_pow_pos _
structure Wh (b:Nat) (s:Bool) (Q:Nat):Prop where
 h:∃M p,double.read b=.number s M p∧ -1074≤p∧M*2^(p+1074).toNat=Q*2^1074
theorem Wh.ge {b:Nat} {s:Bool} {Q:Nat} (h:Wh b s Q):yd b 4890909195324358656=decide (9223372036854775808≤signed s Q 0):=by
 obtain⟨M,p,hr,hp,hv⟩:=h.h
 unfold yd
 show(Datum.order (double.read b) (double.read 4890909195324358656)==some .gt||Datum.order (double.read b) (double.read 4890909195324358656)==some .eq)=_
 rw[hr,AR,pP hp (by decide),Tq,vu hv,vu KO]
 exact decide_eq_decide.mpr (CW Pp)
theorem Wh.lt {b:Nat} {s:Bool} {Q:Nat} (h:Wh b s Q):Ax b 14114281232179134464=decide (signed s Q 0 < -9223372036854775808):=by
 obtain⟨M,p,hr,hp,hv⟩:=h.h
 unfold Ax
 show(Datum.order (double.read b) (double.read 14114281232179134464)==some .lt)=_
 rw[hr,yE,pP hp (by decide),Tp,vu hv,vu KO]
 exact decide_eq_decide.mpr (MP Pp)
theorem Wh.int {b:Nat} {s:Bool} {Q:Nat} (h:Wh b s Q):(FloatKind.f64.decode b).toInt .zero=some (signed s Q 0):=by
 obtain⟨M,p,hr,hp,hv⟩:=h.h
 show(double.read b).toInt .zero=_
 rw[hr]
 exact KN hp hv
theorem Wh.nI {b:Nat} {s:Bool} {Q:Nat} (h:Wh b s Q):Go.Ev.nI b=signed s Q 0:=by
 unfold Go.Ev.nI;rw[h.int]
theorem Wh.AB {b:Nat} {s:Bool} {Q:Nat} (h:Wh b s Q) (h1: -9223372036854775808≤signed s Q 0) (h2:signed s Q 0<9223372036854775808):Go.Ev.AB b .i64:=by
 unfold Go.Ev.AB
 rw[h.nI,h.int]
 exact⟨rfl,h1,by show signed s Q 0≤9223372036854775807;omega⟩
theorem CX {m:Nat} (h:m<18446744073709551616):m.log2≤63:=by
 by_cases h0:m=0
 ·subst h0;decide
 ·have:=(Nat.log2_lt h0 (k:=64)).mpr h;omega
theorem zI (s:Bool) {m:Nat} (h:m<18446744073709551616):Wh (double.nearest s m 0) s (lZ m):=by
 by_cases h0:m=0
 ·subst h0
  refine⟨0,-1074,?_,by decide,?_⟩
  ·cases s<;>rfl
  ·rw[show lZ 0=0 from rfl,Nat.zero_mul,Nat.zero_mul]
 ·obtain⟨M,p,h1,h2,h3,_⟩:=MO s h0 (CX h)
  exact⟨M,p,h1,h2,h3⟩
theorem Ts {m:Nat} (h:m≤9223372036854775808):lZ m≤9223372036854775808:=by
 by_cases hf:o0 m
 ·rw[sx hf];exact h
 ·have hl:¬m.log2≤52:=fun c=>hf (.inl c)
  have h0:m≠0:=by intro c;subst c;exact hl (by decide)
  have h62:m.log2≤62:=by
   have:m≠9223372036854775808:=fun c=>hf (by subst c;decide)
   have:=(Nat.log2_lt h0 (k:=63)).mpr (by omega)
   omega
  unfold lZ
  rw[if_neg hl]
  have hk:=(oe h0).2.1
  have h1:fP m*2^(m.log2-52)≤9007199254740992*2^10:=Nat.mul_le_mul hk (Nat.pow_le_pow_right (by decide) (by omega))
  omega
def TI (b:Nat) (x:Int):Prop:=∃s Q,Wh b s Q∧x=signed s Q 0∧ -9223372036854775808≤x∧x<9223372036854775808
theorem Wh.Tt {b:Nat} {s t:Bool} {Q R:Nat} (h:Wh b s Q) (h':Wh b t R):signed s Q 0=signed t R 0:=by
 have:=h.int.symm.trans h'.int
 exact Option.some.inj this
theorem TI.Tt {b:Nat} {x y:Int} (h:TI b x) (h':TI b y):x=y:=by
 obtain⟨s,Q,h1,rfl,_⟩:=h
 obtain⟨t,R,h2,rfl,_⟩:=h'
 exact h1.Tt h2
theorem CY {b:Nat} {s:Bool} {M:Nat} {p:Int} (h:double.read b=.number s M p): -1074≤p∧M<9007199254740992:=by
 unfold Format.read at h
 rw[show double.signWeight=9223372036854775808 from rfl,show double.binade=4503599627370496 from rfl,show double.infRung=9218868437227405312 from rfl,show double.leastPlace= -1074 from rfl] at h
 dsimp only at h
 split at h
 ·cases h;omega
 ·split at h
  ·cases h;omega
  ·split at h<;>cases h
theorem FF {M d:Nat} (h:M<9007199254740992):o0 (M*2^d):=by
 by_cases h0:M=0
 ·subst h0;rw[Nat.zero_mul];exact .inl (by decide)
 ·by_cases hl:(M*2^d).log2≤52
  ·exact .inl hl
  ·refine .inr ?_
   have h1:(M*2^d).log2<53+d:=by
    refine(Nat.log2_lt (by have:=Nat.two_pow_pos d;exact Nat.mul_ne_zero h0 (by omega))).mpr ?_
    rw[Nat.pow_add]
    exact Nat.mul_lt_mul_of_pos_right h (Nat.two_pow_pos _)
   have e:d=(d-((M*2^d).log2-52))+((M*2^d).log2-52):=by omega
   generalize (M*2^d).log2-52=q at *
   rw[e,Nat.pow_add,←Nat.mul_assoc]
   exact Nat.mul_mod_left _ _
theorem val_inj {s:Bool} {M Q:Nat} {p:Int} (h:val s M p=signed s Q 0*((2^1074:Nat):Int)):M*2^(p+1074).toNat=Q*2^1074:=by
 unfold val at h
 rw[ow] at h
 generalize 2^1074=K at *
 cases s
 ·simp only[Bool.false_eq_true,if_false,←Int.natCast_mul] at h
  exact Int.ofNat.inj h
 ·simp only[if_true,Int.neg_mul,←Int.natCast_mul] at h
  exact Int.ofNat.inj (Int.neg_inj.mp h)
theorem CZ {b:Nat} {s:Bool} {M:Nat} {p:Int} (hr:double.read b=.number s M p) (h1:Ax b 14114281232179134464=false) (h2:yd b 4890909195324358656=false):
  Wh (ia b) s ((M <<< p.toNat)/2^(-p).toNat)∧((FloatKind.f64.format.order b (ia b) != some .eq)=true↔¬M*2^(p+1074).toNat=((M <<< p.toNat)/2^(-p).toNat)*2^1074):=by
 obtain⟨hp,hM⟩:=CY hr
 have hq:(M <<< p.toNat)/2^(-p).toNat<18446744073709551616∧o0 ((M <<< p.toNat)/2^(-p).toNat):=by
  by_cases h0:0≤p
  ·have e:M*2^(p+1074).toNat=(M*2^p.toNat)*2^1074:=by rw[show(p+1074).toNat=p.toNat+1074 by omega,Nat.pow_add,←Nat.mul_assoc]
   have hw:Wh b s (M*2^p.toNat):=⟨M,p,hr,hp,e⟩
   rw[hw.lt] at h1
   rw[hw.ge] at h2
   have h1:=of_decide_eq_false h1
   have h2:=of_decide_eq_false h2
   rw[ow] at h1 h2
   rw[show(-p).toNat=0 by omega,Nat.pow_zero,Nat.div_one,Nat.shiftLeft_eq]
   refine⟨?_,FF hM⟩
   cases s
   ·simp only[Bool.false_eq_true,if_false] at h1 h2;omega
   ·simp only[if_true] at h1 h2;omega
  ·rw[show p.toNat=0 by omega,Nat.shiftLeft_zero]
   have hd:M/2^(-p).toNat≤M:=Nat.div_le_self _ _
   refine⟨by omega,?_⟩
   have:=FF (M:=M/2^(-p).toNat) (d:=0) (by omega)
   rwa [Nat.pow_zero,Nat.mul_one] at this
 have hw:Wh (ia b) s ((M <<< p.toNat)/2^(-p).toNat):=by
  have e:ia b=double.nearest s ((M <<< p.toNat)/2^(-p).toNat) 0:=by
   show double.write ((double.read b).integral .zero)=_
   rw[hr]
   show double.nearest s (Toward.zero.cut s (M <<< p.toNat) (-p).toNat) 0=_
   rw[CU]
  rw[e]
  have:=zI s hq.1
  rwa [sx hq.2] at this
 refine⟨hw,?_⟩
 obtain⟨N,q,gw,iA,mf⟩:=hw.h
 show(Datum.order (double.read b) (double.read (ia b)) != some .eq)=true↔_
 rw[hr,gw,pP hp iA,bne,cmp_eq,vu mf]
 constructor
 ·intro h c
  rw[vu c] at h
  simp at h
 ·intro h
  rw[decide_eq_false fun c=>h (val_inj c)];rfl
theorem KP (s:Bool) {Q R:Nat} (h:Q≤R): -(R:Int)≤signed s Q 0∧signed s Q 0≤R:=by
 rw[ow];cases s<;>simp<;>omega
end Go.Ev.Flt
end
section
namespace Go.Proofs.YtbajncpfmemdgaaGreatDoor
open Go Go.Ev
def q4 (n:Int):Int:=if Flt.o0 n.natAbs then((FloatKind.nearest .f64 n:Nat):Int) else 0
def sy (n:Int):Bool:=decide (Flt.o0 n.natAbs)
noncomputable def l0 (s:List UInt8):Nat→Int
 | 0=>0
 | n+1=>l0 s n*256%18446744073709551616+aH s n
def yF (b:Int):Prop:=0≤b∧b<18446744073709551616
noncomputable def l3 (b:Int):Int:=@dite _ (∃x,Flt.TI b.toNat x) (Classical.propDecidable _) (fun h=>Classical.choose h) fun _=>0
noncomputable def wJ (b:Int):Bool:=@decide (∃x,Flt.TI b.toNat x) (Classical.propDecidable _)
def FG:Nat→List Nat:=(fun _=>[])
theorem aaK [Env] (A:Nat→List SV→Prop) (Q:V→Prop) (b:Nat):WE Tryz.prog 277 Tryz.f277 Ig 0 FG A (fun v _=>Q v) [.dM .f64 b] Go.Ev.start=
  (((FloatKind.f64.decode b).isNaN=false∧Q (.dM .f64 (ia b)))):=by kernel_rfl
def MQ [Env] (vs:List V) (σ:St) (k:ah):Prop:=
 match vs with
 | [.dM .f64 b]=>(FloatKind.f64.decode b).isNaN=false∧k (.dM .f64 (ia b)) σ
 | _=>False
def Ik [Env]:=kS 277 MQ Ig
def FH:Nat→List Nat:=(fun _=>[])
theorem aaL [Env] (A:Nat→List SV→Prop) (Q:V→Prop) (n:Int):WE Tryz.prog 267 Tryz.f267 Ik 0 FH A (fun v _=>Q v) [.int .i64 n] Go.Ev.start=
  (af (yd (FloatKind.nearest .f64 n) (4890909195324358656:Nat)) (Q (.tuple [.int .u64 (0:Int),.bool false])) ((AB (FloatKind.nearest .f64 n) .i64∧((.i64:IntKind)=.i64∧af (decide ((nI (FloatKind.nearest .f64 n))≠n)) (Q (.tuple [.int .u64 (0:Int),.bool false])) (Q (.tuple [.int .u64 (((FloatKind.nearest .f64 n:Nat):Int)),.bool true])))))):=by kernel_rfl
def MR [Env] (vs:List V) (σ:St) (k:ah):Prop:=
 match vs with
 | [.int .i64 n]=>dH n∧k (.tuple [.int .u64 (q4 n),.bool (sy n)]) σ
 | _=>False
def Il [Env]:=kS 267 MR Ik
def FI:Nat→List Nat:=(fun _=>[])
theorem aaM [Env] (A:Nat→List SV→Prop) (Q:V→Prop) (b:Int):WE Tryz.prog 270 Tryz.f270 Il 0 FI A (fun v _=>Q v) [.int .u64 b] Go.Ev.start=
  (af (FloatKind.f64.format.order b.toNat b.toNat != some .eq) (Q (.tuple [.int .i64 (0:Int),.bool false])) (af (Ax b.toNat (14114281232179134464:Nat)) (Q (.tuple [.int .i64 (0:Int),.bool false])) (af (yd b.toNat (4890909195324358656:Nat)) (Q (.tuple [.int .i64 (0:Int),.bool false])) (((FloatKind.f64.decode b.toNat).isNaN=false∧af (FloatKind.f64.format.order b.toNat (ia b.toNat) != some .eq) (Q (.tuple [.int .i64 (0:Int),.bool false])) ((AB b.toNat .i64∧Q (.tuple [.int .i64 (nI b.toNat),.bool true])))))))):=by kernel_rfl
def MS [Env] (vs:List V) (σ:St) (k:ah):Prop:=
 match vs with
 | [.int .u64 b]=>yF b∧k (.tuple [.int .i64 (l3 b),.bool (wJ b)]) σ
 | _=>False
def Im [Env]:=kS 270 MS Il
end Go.Proofs.YtbajncpfmemdgaaGreatDoor
end
section
namespace Go.Proofs.YtbajncpfmemdgaaGreatDoor
open Go Go.Ev Go.IntWalk Go.Ev.Flt
open Ieee (double signed)
theorem F277:bU Tryz.prog 277 Tryz.f277:=.of (by kernel_rfl) (by kernel_rfl)
theorem F267:bU Tryz.prog 267 Tryz.f267:=.of (by kernel_rfl) (by kernel_rfl)
theorem F270:bU Tryz.prog 270 Tryz.f270:=.of (by kernel_rfl) (by kernel_rfl)
theorem aaN (x k:Nat) (hk:k≤64):IntKind.u64.wrap (((x:Nat):Int)*2^min (((k:Nat):Int)).toNat IntKind.u64.bits)=((x*2^k%18446744073709551616:Nat):Int):=by
 rw[dU,show min k IntKind.u64.bits=k from Nat.min_eq_left hk,wrap_u64,Int.natCast_emod,Int.natCast_mul,Int.natCast_pow];rfl
theorem Yz {x:Nat} (hx:x<18446744073709551616):(BitVec.ofInt IntKind.u64.bits ((x:Nat):Int)).toNat=x:=by
 rw[show IntKind.u64.bits=64 from rfl,BitVec.toNat_ofInt]
 show(((x:Nat):Int)%(18446744073709551616:Nat)).toNat=x
 omega
theorem orU {x y:Nat} (hx:x<18446744073709551616) (hy:y<18446744073709551616):IntKind.u64.wrap (BitVec.ofInt IntKind.u64.bits ((x:Nat):Int)||| BitVec.ofInt IntKind.u64.bits ((y:Nat):Int)).toNat=((x||| y:Nat):Int):=by
 rw[BitVec.toNat_or,Yz hx,Yz hy,wrap_u64]
 have:x||| y<2^64:=Nat.or_lt_two_pow hx hy
 omega
theorem Tu {k a b:Nat} (h:b<2^k):(2^k*a)||| b=2^k*a+b:=(Nat.two_pow_add_eq_or_of_lt h a).symm
theorem Qq {n:Int} (h:dH n):n.natAbs≤9223372036854775808:=by have:=h.1;have:=h.2;omega
theorem FJ {n:Int}:signed (decide (n<0)) n.natAbs 0=n:=by
 rw[ow]
 by_cases h:n<0
 ·rw[decide_eq_true h,if_pos rfl];omega
 ·rw[decide_eq_false h,if_neg Bool.false_ne_true];omega
theorem zJ (n:Int):FloatKind.nearest .f64 n=double.nearest (decide (n<0)) n.natAbs 0:=rfl
theorem dG.dM [Env] (k:FloatKind) (b:Nat):dG (.dM k b):=fun _ _ _ h=>by cases h;exact .dM _ _
theorem yG {b x:Int} (h:TI b.toNat x):l3 b=x∧wJ b=true:=by
 have he:∃x,TI b.toNat x:=⟨x,h⟩
 constructor
 ·unfold l3
  rw[dif_pos he]
  exact(Classical.choose_spec he).Tt h
 ·unfold wJ;exact @decide_eq_true _ (Classical.propDecidable _) he
theorem Br {b:Int} (h:∀x,¬TI b.toNat x):l3 b=0∧wJ b=false:=by
 have he:¬ ∃x,TI b.toNat x:=fun⟨x,hx⟩=>h x hx
 constructor
 ·unfold l3;rw[dif_neg he]
 ·unfold wJ;exact @decide_eq_false _ (Classical.propDecidable _) he
section
variable [Env] [aC] {vs:List V} {σ:St} {k:ah}
theorem Qr (h:MQ vs σ k):ag Tryz.prog 277 vs k σ:=by
 unfold MQ at h
 split at h
 ·rename_i b
  refine ag.eG (aA (Go.Ev.Clean.dM _ _) bm) (dG.dM _ _) (F277.flat (live:=FG) (call:=Ig) (n₀:=0) (σ:=Go.Ev.start) (fun h=>FE h) rfl (by kernel_rfl) ?_) h.2
  rw[aaK]
  exact⟨h.1,rfl⟩
 ·exact h.elim
theorem FK:∀ {f:FuncId} {vs:List V} {σ:St} {k:ah},Ik f vs σ k→ag Tryz.prog f vs k σ:=fun h=>aP Qr FE h
omit [Env] [aC] in
theorem Tv {n:Int} (h:¬o0 n.natAbs):V.tuple [.int .u64 (0:Int),.bool false]=.tuple [.int .u64 (q4 n),.bool (sy n)]:=by
 unfold q4 sy;rw[if_neg h,decide_eq_false h]
omit [Env] [aC] in
theorem W1 {n:Int} {x:Nat} (h:o0 n.natAbs) (hx:FloatKind.nearest .f64 n=x):V.tuple [.int .u64 ((x:Nat):Int),.bool true]=.tuple [.int .u64 (q4 n),.bool (sy n)]:=by
 unfold q4 sy;rw[if_pos h,decide_eq_true h,hx]
theorem Qs (h:MR vs σ k):ag Tryz.prog 267 vs k σ:=by
 unfold MR at h
 split at h
 ·rename_i n
  obtain⟨hn,h⟩:=h
  refine ag.eG (aA (Go.Ev.Clean.int _ _) bm) (.tuple (bX (.int _ _) (bX (.bool _) ik))) (F267.flat (live:=FH) (call:=Ik) (n₀:=0) (σ:=Go.Ev.start) (fun h=>FK h) rfl (by kernel_rfl) ?_) h
  rw[aaL]
  have hm:=Qq hn
  have hw:Wh (FloatKind.nearest .f64 n) (decide (n<0)) (lZ n.natAbs):=by rw[zJ];exact zI _ (by omega)
  have hr:=Ts hm
  rw[hw.ge,hw.nI]
  refine av (fun h1=>Tv fun hf=>?_) fun h1=>⟨hw.AB ?_ (by omega),rfl,av (fun h2=>Tv fun hf=>?_) fun h2=>W1 ?_ rfl⟩
  ·rw[sx hf,FJ] at h1;have:=hn.2;omega
  ·have:=(KP (decide (n<0)) hr).1;omega
  ·rw[sx hf,FJ] at h2;exact h2 rfl
  ·refine Classical.byContradiction fun hf=>Qp hf ?_
   have h2:signed (decide (n<0)) (lZ n.natAbs) 0=n:=Classical.not_not.mp h2
   rw[ow] at h2
   by_cases h0:n<0
   ·rw[decide_eq_true h0,if_pos rfl] at h2;omega
   ·rw[decide_eq_false h0,if_neg Bool.false_ne_true] at h2;omega
 ·exact h.elim
theorem FL:∀ {f:FuncId} {vs:List V} {σ:St} {k:ah},Il f vs σ k→ag Tryz.prog f vs k σ:=fun h=>aP Qs FK h
end
end Go.Proofs.YtbajncpfmemdgaaGreatDoor
end
section
set_option exponentiation.threshold 3000
namespace Go.Proofs.YtbajncpfmemdgaaGreatDoor
open Go Go.Ev Go.IntWalk Go.Ev.Flt
open Ieee (double signed Datum)
theorem xe {b:Int} (h:∀x,¬TI b.toNat x):V.tuple [.int .i64 (0:Int),.bool false]=.tuple [.int .i64 (l3 b),.bool (wJ b)]:=by rw[(Br h).1,(Br h).2]
theorem W2 {b x:Int} (h:TI b.toNat x):V.tuple [.int .i64 x,.bool true]=.tuple [.int .i64 (l3 b),.bool (wJ b)]:=by rw[(yG h).1,(yG h).2]
theorem KQ {b:Nat} (h:9218868437227405312≤b%9223372036854775808):∀s M p,double.read b≠.number s M p:=by
 intro s M p hc
 unfold Ieee.Format.read at hc
 rw[show double.signWeight=9223372036854775808 from rfl,show double.binade=4503599627370496 from rfl,show double.infRung=9218868437227405312 from rfl] at hc
 dsimp only at hc
 rw[if_neg (by omega),if_neg (by omega)] at hc
 split at hc<;>cases hc
theorem MT {b:Nat} {x:Int} (h:TI b x) {s:Bool} {M:Nat} {p:Int} (hr:double.read b=.number s M p):∃Q,M*2^(p+1074).toNat=Q*2^1074∧x=signed s Q 0∧ -9223372036854775808≤x∧x<9223372036854775808:=by
 obtain⟨t,Q,⟨N,q,gw,hq,hv⟩,hx,h1,h2⟩:=h
 rw[hr] at gw
 cases gw
 exact⟨Q,hv,hx,h1,h2⟩
section
variable [Env] [aC] {vs:List V} {σ:St} {k:ah}
theorem Qt (h:MS vs σ k):ag Tryz.prog 270 vs k σ:=by
 unfold MS at h
 split at h
 ·rename_i b
  obtain⟨hb,h⟩:=h
  refine ag.eG (aA (Go.Ev.Clean.int _ _) bm) (.tuple (bX (.int _ _) (bX (.bool _) ik))) (F270.flat (live:=FI) (call:=Il) (n₀:=0) (σ:=Go.Ev.start) (fun h=>FL h) rfl (by kernel_rfl) ?_) h
  rw[aaM]
  cases hr:double.read b.toNat with
  | nan s t=>
   have no:∀x,¬TI b.toNat x:=fun x ⟨_,_,⟨_,_,gw,_⟩,_⟩=>by rw[hr] at gw;cases gw
   refine af.mk (fun _=>xe no) fun h1=>?_
   have:(Datum.order (double.read b.toNat) (double.read b.toNat) != some .eq)=false:=h1
   rw[hr] at this
   cases this
  | infinity s=>
   have no:∀x,¬TI b.toNat x:=fun x ⟨_,_,⟨_,_,gw,_⟩,_⟩=>by rw[hr] at gw;cases gw
   refine af.mk (fun _=>xe no) fun _=>af.mk (fun _=>xe no) fun h2=>af.mk (fun _=>xe no) fun h3=>?_
   have h2:(Datum.order (double.read b.toNat) (double.read 14114281232179134464)==some .lt)=false:=h2
   have h3:(Datum.order (double.read b.toNat) (double.read 4890909195324358656)==some .gt||Datum.order (double.read b.toNat) (double.read 4890909195324358656)==some .eq)=false:=h3
   rw[hr,yE] at h2
   rw[hr,AR] at h3
   cases s
   ·cases h3
   ·cases h2
  | number s M p=>
   obtain⟨hp,hM⟩:=CY hr
   refine af.mk (fun h1=>?_) fun _=>af.mk (fun h2=>xe fun x hx=>?_) fun h2=>af.mk (fun h3=>xe fun x hx=>?_) fun h3=>⟨?_,af.mk (fun h4=>xe fun x hx=>?_) fun h4=>?_⟩
   ·have h1:(Datum.order (double.read b.toNat) (double.read b.toNat) != some .eq)=true:=h1
    rw[hr,pP hp hp,bne,cmp_eq,decide_eq_true rfl] at h1
    cases h1
   ·obtain⟨t,Q,hw,rfl,h5,_⟩:=hx
    rw[hw.lt] at h2
    have:=of_decide_eq_true h2
    omega
   ·obtain⟨t,Q,hw,rfl,_,h5⟩:=hx
    rw[hw.ge] at h3
    have:=of_decide_eq_true h3
    omega
   ·show(double.read b.toNat).isNaN=false
    rw[hr];rfl
   ·obtain⟨Q,hv,_⟩:=MT hx hr
    refine(CZ hr h2 h3).2.mp h4 ?_
    rw[Tr hp hv];exact hv
   ·have hv:M*2^(p+1074).toNat=((M <<< p.toNat)/2^(-p).toNat)*2^1074:=Classical.byContradiction fun c=>by
     have:=(CZ hr h2 h3).2.mpr c
     rw[h4] at this;cases this
    have hw:Wh b.toNat s ((M <<< p.toNat)/2^(-p).toNat):=⟨M,p,hr,hp,hv⟩
    rw[hw.lt] at h2
    rw[hw.ge] at h3
    have h2:=of_decide_eq_false h2
    have h3:=of_decide_eq_false h3
    refine⟨hw.AB (by omega) (by omega),?_⟩
    rw[hw.nI]
    exact W2 ⟨s,_,hw,rfl,by omega,by omega⟩
 ·exact h.elim
theorem FM:∀ {f:FuncId} {vs:List V} {σ:St} {k:ah},Im f vs σ k→ag Tryz.prog f vs k σ:=fun h=>aP Qt FL h
end
end Go.Proofs.YtbajncpfmemdgaaGreatDoor
end
