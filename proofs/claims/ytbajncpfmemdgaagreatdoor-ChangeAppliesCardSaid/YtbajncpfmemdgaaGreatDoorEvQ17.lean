/- Proved: parts of the way: BEq11, BC1, BCD, BCE, Flt. -/
import Derived.Test.YtbajncpfmemdgaaGreatDoorEvQ16
import Derived.Test.YtbajncpfmemdgaaGreatDoorEvQ09
set_option linter.unusedVariables false
set_option linter.unusedSimpArgs false
section
namespace Go.Proofs.YtbajncpfmemdgaaGreatDoor
open Go Go.Ev
def AG:Nat→List Nat:=(fun i=>match i with | 0=>[0,4,5,23,24,25] | _=>[])
abbrev Qp [Env] (A:Nat→List SV→Prop) (Q:V→Prop) (s:List UInt8):Prop:=
 ((.i64:IntKind)=.i64∧aa (decide ((((len s:Nat):Int))≥(20:Int))) (Q (.tuple [.int .i64 (0:Int),.int .i64 (7:Int)])) ((len s≤1099511627776∧(((len s)=(len s)∧1=1)∧A 0 [.val (.str s),.val (.str s),.val (.int .u64 (0:Int)),.row (len s) (dE s) 1,.val (.int .i64 (((len s:Nat):Int))),.val (.int .i64 (0:Int))]))))
theorem AH [Env] (A:Nat→List SV→Prop) (Q:V→Prop) (s:List UInt8):WE Tryz.prog 271 Tryz.f271 Ez 0 AG A (fun v _=>Q v) [.str s] Go.Ev.start=
  (aa (decide (s≠[])) (((0≤(0:Int)∧(0:Int)<((len s:Nat):Int))∧((.u8:IntKind)=.u8∧aa (decide ((bu s (0:Int))=(45:Int))) (((0≤(1:Int)∧(1:Int)≤((len s:Nat):Int)∧((len s:Nat):Int)≤((len s:Nat):Int))∧((.i64:IntKind)=.i64∧aa (decide ((((len (cR (1:Int).toNat (cV s ((len s:Nat):Int).toNat)):Nat):Int))≥(20:Int))) (Q (.tuple [.int .i64 (0:Int),.int .i64 (7:Int)])) ((len (cR (1:Int).toNat (cV s ((len s:Nat):Int).toNat))≤1099511627776∧(((len (cR (1:Int).toNat (cV s ((len s:Nat):Int).toNat)))=(len (cR (1:Int).toNat (cV s ((len s:Nat):Int).toNat)))∧1=1)∧A 0 [.val (.str s),.val (.str (cR (1:Int).toNat (cV s ((len s:Nat):Int).toNat))),.val (.int .u64 (0:Int)),.row (len (cR (1:Int).toNat (cV s ((len s:Nat):Int).toNat))) (dE (cR (1:Int).toNat (cV s ((len s:Nat):Int).toNat))) 1,.val (.int .i64 (((len (cR (1:Int).toNat (cV s ((len s:Nat):Int).toNat)):Nat):Int))),.val (.int .i64 (0:Int))])))))) ((Qp A Q s))))) ((Qp A Q s))):=by kernel_rfl
theorem agw [Env] (A:Nat→List SV→Prop) (Q:V→Prop) (s t:List UInt8) (m n i:Int):WL Tryz.prog 271 Tryz.f271 Ez 0 AG A (fun v _=>Q v) 0 [.val (.str s),.val (.str t),.val (.int .u64 m),.row (len t) (dE t) 1,.val (.int .i64 n),.val (.int .i64 i)]=
  (((.i64:IntKind)=.i64∧aa (decide (i<n)) (((0≤i∧i<((len t:Nat):Int))∧(i.toNat<len t∧((.u8:IntKind)=.u8∧aa (decide ((av t i.toNat)<(48:Int))) (Q (.tuple [.int .i64 (0:Int),.int .i64 (7:Int)])) (((.u8:IntKind)=.u8∧aa (decide ((av t i.toNat)>(57:Int))) (Q (.tuple [.int .i64 (0:Int),.int .i64 (7:Int)])) ((((len t)=(len t)∧1=1)∧A 0 [.val (.str s),.val (.str t),.val (.int .u64 (IntKind.u64.wrap ((IntKind.u64.wrap (m*(10:Int)))+(IntKind.u64.wrap (IntKind.u8.wrap ((av t i.toNat)-(48:Int))))))),.row (len t) (dE t) 1,.val (.int .i64 n),.val (.int .i64 (IntKind.i64.wrap (i+(1:Int))))])))))))) (((.i64:IntKind)=.i64∧aa (decide ((((len t:Nat):Int))<(((len s:Nat):Int)))) ((dL (IntKind.i64.wrap (IntKind.u64.wrap ((0:Int)-m)))∧aa (decide (gd (IntKind.i64.wrap (IntKind.u64.wrap ((0:Int)-m)))≠s)) (Q (.tuple [.int .i64 (0:Int),.int .i64 (7:Int)])) (Q (.tuple [.int .i64 (IntKind.i64.wrap (IntKind.u64.wrap ((0:Int)-m))),.int .i64 (0:Int)])))) ((dL (IntKind.i64.wrap m)∧aa (decide (gd (IntKind.i64.wrap m)≠s)) (Q (.tuple [.int .i64 (0:Int),.int .i64 (7:Int)])) (Q (.tuple [.int .i64 (IntKind.i64.wrap m),.int .i64 (0:Int)])))))))):=by kernel_rfl
def Qq [Env] (vs:List V) (σ:St) (k:ai):Prop:=
 match vs with
 | [.str s]=>k (.tuple [.int .i64 (gW s),.int .i64 (fw s)]) σ
 | _=>False
def EA [Env]:=kS 271 Qq Ez
def AJ:Nat→List Nat:=(fun i=>match i with | 0=>[0,4,5,6] | _=>[])
theorem agx [Env] (A:Nat→List SV→Prop) (Q:V→Prop) (s:List UInt8):WE Tryz.prog 245 Tryz.f245 EA 0 AJ A (fun v _=>Q v) [.str s] Go.Ev.start=
  (((.i64:IntKind)=.i64∧aa (decide ((((len s:Nat):Int))>(0:Int))) (((0≤(0:Int)∧(0:Int)<((len s:Nat):Int))∧((.u8:IntKind)=.u8∧aa (decide ((bu s (0:Int))=(45:Int))) (((.i64:IntKind)=.i64∧aa (decide ((((len s:Nat):Int))>(20:Int))) (Q (.tuple [.int .i64 (0:Int),.int .i64 (7:Int)])) (A 0 [.val (.str s),.val (.int .i64 (0:Int)),.val (.int .i64 (1:Int)),.val (.int .i64 (1:Int))]))) (((.i64:IntKind)=.i64∧aa (decide ((((len s:Nat):Int))>(20:Int))) (Q (.tuple [.int .i64 (0:Int),.int .i64 (7:Int)])) (A 0 [.val (.str s),.val (.int .i64 (0:Int)),.val (.int .i64 (0:Int)),.val (.int .i64 (0:Int))])))))) (((.i64:IntKind)=.i64∧aa (decide ((((len s:Nat):Int))>(20:Int))) (Q (.tuple [.int .i64 (0:Int),.int .i64 (7:Int)])) (A 0 [.val (.str s),.val (.int .i64 (0:Int)),.val (.int .i64 (0:Int)),.val (.int .i64 (0:Int))]))))):=by kernel_rfl
theorem agy [Env] (A:Nat→List SV→Prop) (Q:V→Prop) (s:List UInt8) (n d i:Int):WL Tryz.prog 245 Tryz.f245 EA 0 AJ A (fun v _=>Q v) 0 [.val (.str s),.val (.int .i64 n),.val (.int .i64 d),.val (.int .i64 i)]=
  (((.i64:IntKind)=.i64∧aa (decide (i<(((len s:Nat):Int)))) (((0≤i∧i<((len s:Nat):Int))∧((.u8:IntKind)=.u8∧aa (decide ((bu s i)<(48:Int))) (Q (.tuple [.int .i64 (0:Int),.int .i64 (7:Int)])) (((0≤i∧i<((len s:Nat):Int))∧((.u8:IntKind)=.u8∧aa (decide ((bu s i)>(57:Int))) (Q (.tuple [.int .i64 (0:Int),.int .i64 (7:Int)])) (((0≤i∧i<((len s:Nat):Int))∧A 0 [.val (.str s),.val (.int .i64 (IntKind.i64.wrap ((IntKind.i64.wrap ((IntKind.i64.wrap (n*(10:Int)))+(IntKind.i64.wrap (bu s i))))-(48:Int)))),.val (.int .i64 d),.val (.int .i64 (IntKind.i64.wrap (i+(1:Int))))])))))))) (((.i64:IntKind)=.i64∧aa (decide (d=(1:Int))) ((dL (IntKind.i64.wrap ((0:Int)-n))∧aa (decide (gd (IntKind.i64.wrap ((0:Int)-n))≠s)) (Q (.tuple [.int .i64 (0:Int),.int .i64 (7:Int)])) (Q (.tuple [.int .i64 (IntKind.i64.wrap ((0:Int)-n)),.int .i64 (0:Int)])))) ((dL n∧aa (decide (gd n≠s)) (Q (.tuple [.int .i64 (0:Int),.int .i64 (7:Int)])) (Q (.tuple [.int .i64 n,.int .i64 (0:Int)])))))))):=by kernel_rfl
def Qr [Env] (vs:List V) (σ:St) (k:ai):Prop:=
 match vs with
 | [.str s]=>k (.tuple [.int .i64 (gW s),.int .i64 (fw s)]) σ
 | _=>False
def Lk [Env]:=kS 245 Qr EA
end Go.Proofs.YtbajncpfmemdgaaGreatDoor
end
section
namespace Go.Proofs.YtbajncpfmemdgaaGreatDoor
open Go Go.Ev Go.IntWalk
theorem F253:bc Tryz.prog 253 Tryz.f253:=.of (by kernel_rfl) (by kernel_rfl)
theorem F162:bc Tryz.prog 162 Tryz.f162:=.of (by kernel_rfl) (by kernel_rfl)
theorem F251:bc Tryz.prog 251 Tryz.f251:=.of (by kernel_rfl) (by kernel_rfl)
theorem F252:bc Tryz.prog 252 Tryz.f252:=.of (by kernel_rfl) (by kernel_rfl)
theorem F265:bc Tryz.prog 265 Tryz.f265:=.of (by kernel_rfl) (by kernel_rfl)
theorem F266:bc Tryz.prog 266 Tryz.f266:=.of (by kernel_rfl) (by kernel_rfl)
theorem F268:bc Tryz.prog 268 Tryz.f268:=.of (by kernel_rfl) (by kernel_rfl)
theorem F242:bc Tryz.prog 242 Tryz.f242:=.of (by kernel_rfl) (by kernel_rfl)
theorem F269:bc Tryz.prog 269 Tryz.f269:=.of (by kernel_rfl) (by kernel_rfl)
def Qs (x:Int):Nat→List SV
 | 0=>[.val (.int .u64 x),.box [.int .u8 (0:Int),.int .u8 (0:Int),.int .u8 (0:Int),.int .u8 (0:Int),.int .u8 (0:Int),.int .u8 (0:Int),.int .u8 (0:Int),.int .u8 (0:Int)],.val (.int .i64 (0:Int))]
 | 1=>[.val (.int .u64 x),.box [.int .u8 (cJ x 56),.int .u8 (0:Int),.int .u8 (0:Int),.int .u8 (0:Int),.int .u8 (0:Int),.int .u8 (0:Int),.int .u8 (0:Int),.int .u8 (0:Int)],.val (.int .i64 (1:Int))]
 | 2=>[.val (.int .u64 x),.box [.int .u8 (cJ x 56),.int .u8 (cJ x 48),.int .u8 (0:Int),.int .u8 (0:Int),.int .u8 (0:Int),.int .u8 (0:Int),.int .u8 (0:Int),.int .u8 (0:Int)],.val (.int .i64 (2:Int))]
 | 3=>[.val (.int .u64 x),.box [.int .u8 (cJ x 56),.int .u8 (cJ x 48),.int .u8 (cJ x 40),.int .u8 (0:Int),.int .u8 (0:Int),.int .u8 (0:Int),.int .u8 (0:Int),.int .u8 (0:Int)],.val (.int .i64 (3:Int))]
 | 4=>[.val (.int .u64 x),.box [.int .u8 (cJ x 56),.int .u8 (cJ x 48),.int .u8 (cJ x 40),.int .u8 (cJ x 32),.int .u8 (0:Int),.int .u8 (0:Int),.int .u8 (0:Int),.int .u8 (0:Int)],.val (.int .i64 (4:Int))]
 | 5=>[.val (.int .u64 x),.box [.int .u8 (cJ x 56),.int .u8 (cJ x 48),.int .u8 (cJ x 40),.int .u8 (cJ x 32),.int .u8 (cJ x 24),.int .u8 (0:Int),.int .u8 (0:Int),.int .u8 (0:Int)],.val (.int .i64 (5:Int))]
 | 6=>[.val (.int .u64 x),.box [.int .u8 (cJ x 56),.int .u8 (cJ x 48),.int .u8 (cJ x 40),.int .u8 (cJ x 32),.int .u8 (cJ x 24),.int .u8 (cJ x 16),.int .u8 (0:Int),.int .u8 (0:Int)],.val (.int .i64 (6:Int))]
 | 7=>[.val (.int .u64 x),.box [.int .u8 (cJ x 56),.int .u8 (cJ x 48),.int .u8 (cJ x 40),.int .u8 (cJ x 32),.int .u8 (cJ x 24),.int .u8 (cJ x 16),.int .u8 (cJ x 8),.int .u8 (0:Int)],.val (.int .i64 (7:Int))]
 | 8=>[.val (.int .u64 x),.box [.int .u8 (cJ x 56),.int .u8 (cJ x 48),.int .u8 (cJ x 40),.int .u8 (cJ x 32),.int .u8 (cJ x 24),.int .u8 (cJ x 16),.int .u8 (cJ x 8),.int .u8 (cJ x 0)],.val (.int .i64 (8:Int))]
 | _=>[]
section
variable [Env] [aL] {vs:List V} {σ:St} {k:ai}
omit [Env] [aL] in
theorem Yg {a b:Int} (h:(1≤a∧a≤5)∧(1≤b∧b≤5)∧¬(a=1∧b=4)∧¬(a=4∧b=1)∧¬(a=3∧b=5)∧¬(a=5∧b=3)):V.bool true=.bool (iY a b):=by unfold iY;rw[decide_eq_true h]
omit [Env] [aL] in
theorem Yh {a b:Int} (h:¬((1≤a∧a≤5)∧(1≤b∧b≤5)∧¬(a=1∧b=4)∧¬(a=4∧b=1)∧¬(a=3∧b=5)∧¬(a=5∧b=3))):V.bool false=.bool (iY a b):=by unfold iY;rw[decide_eq_false h]
theorem U1 (h:Qg vs σ k):ag Tryz.prog 253 vs k σ:=by
 unfold Qg at h
 split at h
 ·rename_i a b
  refine ag.cb (ar (Go.Ev.Clean.int _ _) (ar (Go.Ev.Clean.int _ _) aG)) (.bool _) (F253.flat (live:=H5) (call:=Le) (n₀:=0) (σ:=Go.Ev.start) (fun h=>H4 h) rfl (by kernel_rfl) ?_) h
  rw[agk];unfold Ew
  repeat' first
   | exact Yg (by omega)
   | exact Yh (by omega)
   | refine⟨rfl,aq (fun _=>?_) (fun _=>?_)⟩
 ·exact h.elim
theorem Ib:∀ {f:FuncId} {vs:List V} {σ:St} {k:ai},Lf f vs σ k→ag Tryz.prog f vs k σ:=fun h=>aD U1 H4 h
theorem U2 (h:Qh vs σ k):ag Tryz.prog 162 vs k σ:=by
 unfold Qh at h
 split at h
 ·rename_i a b
  refine ag.cb (ar (Go.Ev.Clean.int _ _) (ar (Go.Ev.Clean.int _ _) aG)) (.bool _) (F162.flat (live:=H6) (call:=Lf) (n₀:=0) (σ:=Go.Ev.start) (fun h=>Ib h) rfl (by kernel_rfl) ?_) h
  rw[agl]
  repeat' first
   | exact Yg (by omega)
   | exact Yh (by omega)
   | refine⟨rfl,aq (fun _=>?_) (fun _=>?_)⟩
 ·exact h.elim
theorem Ic:∀ {f:FuncId} {vs:List V} {σ:St} {k:ai},Lg f vs σ k→ag Tryz.prog f vs k σ:=fun h=>aD U2 Ib h
theorem U3 (h:Qi vs σ k):ag Tryz.prog 251 vs k σ:=by
 unfold Qi at h
 split at h
 ·rename_i e
  refine(ag.y4 (Q:=fun u=>u=.func (.func 265) [] [.aQ [.int .i64 e] 0]) (aI (Go.Ev.Clean.int _ _) cM) (F251.flat (live:=H7) (call:=Lg) (n₀:=0) (σ:=Go.Ev.start) (fun h=>Ic h) rfl (by kernel_rfl) ?_)).mono fun v τ ⟨h1,h2⟩=>by subst h1;subst h2;exact h
  rw[agm]
  exact⟨_,.func .nil (.cons (.D3 (n:=1) (cs:=[.int .i64 e]) (by rfl) (.cons (.int _ _) .nil)) .nil),rfl⟩
 ·exact h.elim
theorem Ie:∀ {f:FuncId} {vs:List V} {σ:St} {k:ai},Lh f vs σ k→ag Tryz.prog f vs k σ:=fun h=>aD U3 Ic h
theorem U4 (h:Qj vs σ k):ag Tryz.prog 252 vs k σ:=by
 unfold Qj at h
 split at h
 ·rename_i a b c s
  refine(ag.y4 (Q:=fun u=>u=.func (.func 266) [] [.aQ [.int .i64 a,.int .i64 b,.int .u64 c,.str s] 0]) (aI (aC.aE ⟨a,b,c,s⟩) cM) (F252.flat (live:=H8) (call:=Lh) (n₀:=0) (σ:=Go.Ev.start) (fun h=>Ie h) rfl (by kernel_rfl) ?_)).mono fun v τ ⟨h1,h2⟩=>by subst h1;subst h2;exact h
  rw[agn]
  exact⟨_,.func .nil (.cons (.D3 (n:=4) (cs:=[.int .i64 a,.int .i64 b,.int .u64 c,.str s]) (by rfl) (.cons (.int _ _) (.cons (.int _ _) (.cons (.int _ _) (.cons (.str _) .nil))))) .nil),rfl⟩
 ·exact h.elim
theorem Ig:∀ {f:FuncId} {vs:List V} {σ:St} {k:ai},Li f vs σ k→ag Tryz.prog f vs k σ:=fun h=>aD U4 Ie h
theorem U5 (h:Qk vs σ k):ag Tryz.prog 265 vs k σ:=by
 unfold Qk at h
 split at h
 ·rename_i e
  refine ag.cb (ar (Go.Ev.Clean.aQ (aI (Go.Ev.Clean.int _ _) cM)) aG) (.tuple (bD (.agg (bD (.int _ _) (bD (.int _ _) (bD (.int _ _) (bD (.str _) gb))))) (bD (.int _ _) gb))) (F265.flat (live:=H9) (call:=Li) (n₀:=0) (σ:=Go.Ev.start) (fun h=>Ig h) rfl (by kernel_rfl) ?_) h
  rw[ago]
 ·exact h.elim
theorem Ih:∀ {f:FuncId} {vs:List V} {σ:St} {k:ai},Lj f vs σ k→ag Tryz.prog f vs k σ:=fun h=>aD U5 Ig h
theorem U6 (h:Ql vs σ k):ag Tryz.prog 266 vs k σ:=by
 unfold Ql at h
 split at h
 ·rename_i a b c s
  refine ag.cb (ar (Go.Ev.Clean.aQ (aC.clean ⟨a,b,c,s⟩)) aG) (.tuple (bD (.agg (bD (.int _ _) (bD (.int _ _) (bD (.int _ _) (bD (.str _) gb))))) (bD (.int _ _) gb))) (F266.flat (live:=Ia) (call:=Lj) (n₀:=0) (σ:=Go.Ev.start) (fun h=>Ih h) rfl (by kernel_rfl) ?_) h
  rw[agp]
 ·exact h.elim
theorem Ii:∀ {f:FuncId} {vs:List V} {σ:St} {k:ai},ng f vs σ k→ag Tryz.prog f vs k σ:=fun h=>aD U6 Ih h
def agz (x:Int):Nat→List SV→Prop
 | 0,ss=>∃i:Nat,i≤8∧ss=Qs x i
 | _,_=>False
omit [aL] in
theorem Ll (x:Int):∀i,∀s∈Qs x i,s.clean:=by
 intro i
 unfold Qs
 split<;>first
  | exact bg
  | exact ay (ax (aI (Go.Ev.Clean.int _ _) (aI (Go.Ev.Clean.int _ _) (aI (Go.Ev.Clean.int _ _) (aI (Go.Ev.Clean.int _ _) (aI (Go.Ev.Clean.int _ _) (aI (Go.Ev.Clean.int _ _) (aI (Go.Ev.Clean.int _ _) (aI (Go.Ev.Clean.int _ _) cM)))))))) (ay bg))
theorem U7 (h:Qm vs σ k):ag Tryz.prog 268 vs k σ:=by
 unfold Qm at h
 split at h
 ·rename_i x
  refine ag.cb (ar (Go.Ev.Clean.int _ _) aG) (.str _) (F268.bV (live:=iZ) (call:=ng) (n₀:=0) (σ:=Go.Ev.start) (fun h=>Ii h) rfl 1 (by kernel_rfl) Nat.lt_wfRel.wf (fun _ ss=>8-bF ss) (agz x) ?_ ?_ ?_) h
  ·intro k ss hI
   cases k with
   | zero=>obtain⟨i,_,rfl⟩:=hI;exact Ll x i
   | succ k=>exact hI.elim
  ·rw[agq]
   exact⟨0,by omega,rfl⟩
  ·intro k hk ss hI
   obtain rfl:k=0:=by omega
   obtain⟨i,hi,rfl⟩:=hI
   match i,hi with
   | 0,_=>exact(X5 _ _ x fun j=>cJ x (56-8*j)).mpr ⟨rfl,by decide,⟨1,by decide,rfl⟩,(by show(8-1:Nat)<8-0;decide)⟩
   | 1,_=>exact(X6 _ _ x fun j=>cJ x (56-8*j)).mpr ⟨rfl,by decide,⟨2,by decide,rfl⟩,(by show(8-2:Nat)<8-1;decide)⟩
   | 2,_=>exact(X7 _ _ x fun j=>cJ x (56-8*j)).mpr ⟨rfl,by decide,⟨3,by decide,rfl⟩,(by show(8-3:Nat)<8-2;decide)⟩
   | 3,_=>exact(X8 _ _ x fun j=>cJ x (56-8*j)).mpr ⟨rfl,by decide,⟨4,by decide,rfl⟩,(by show(8-4:Nat)<8-3;decide)⟩
   | 4,_=>exact(Ya _ _ x fun j=>cJ x (56-8*j)).mpr ⟨rfl,by decide,⟨5,by decide,rfl⟩,(by show(8-5:Nat)<8-4;decide)⟩
   | 5,_=>exact(Yb _ _ x fun j=>cJ x (56-8*j)).mpr ⟨rfl,by decide,⟨6,by decide,rfl⟩,(by show(8-6:Nat)<8-5;decide)⟩
   | 6,_=>exact(Yc _ _ x fun j=>cJ x (56-8*j)).mpr ⟨rfl,by decide,⟨7,by decide,rfl⟩,(by show(8-7:Nat)<8-6;decide)⟩
   | 7,_=>exact(Yd _ _ x fun j=>cJ x (56-8*j)).mpr ⟨rfl,by decide,⟨8,by decide,rfl⟩,(by show(8-8:Nat)<8-7;decide)⟩
   | 8,_=>exact(Ye _ _ x fun j=>cJ x (56-8*j)).mpr ⟨rfl,rfl⟩
 ·exact h.elim
theorem Ij:∀ {f:FuncId} {vs:List V} {σ:St} {k:ai},Ey f vs σ k→ag Tryz.prog f vs k σ:=fun h=>aD U7 Ii h
end
end Go.Proofs.YtbajncpfmemdgaaGreatDoor
end
section
namespace Go.Proofs.YtbajncpfmemdgaaGreatDoor
open Go Go.Ev Go.IntWalk
theorem F271:bc Tryz.prog 271 Tryz.f271:=.of (by kernel_rfl) (by kernel_rfl)
theorem F245:bc Tryz.prog 245 Tryz.f245:=.of (by kernel_rfl) (by kernel_rfl)
theorem B1 {x:Int} (h0:0≤x) (h1:x<18446744073709551616):IntKind.u64.wrap x=x:=by rw[wrap_u64];exact Int.emod_eq_of_lt h0 h1
theorem u8n {x:Int} (h0:0≤x) (h1:x<256):IntKind.u8.wrap x=x:=by
 unfold IntKind.wrap
 show(if (false&&_)=true then _ else x%256)=_
 exact Int.emod_eq_of_lt h0 h1
theorem Yi {m:Nat} (h:m<10):UInt8.ofNat (IntKind.u8.wrap (IntKind.u64.wrap ((48:Int)+(m:Int)))).toNat=byteOf ((48+m:Nat):Int):=by
 rw[B1 (by omega) (by omega),u8n (by omega) (by omega),show(48:Int)+(m:Int)=((48+m:Nat):Int) by omega];rfl
theorem Tu (m:Nat):((m:Int)).tmod (10:Int)=((m%10:Nat):Int):=by rw[Int.tmod_eq_emod_of_nonneg (by omega)];omega
theorem Lm {m:Nat} (h:m<18446744073709551616):IntKind.u64.wrap (((m:Int)).tdiv (10:Int))=((m/10:Nat):Int):=by
 rw[Int.tdiv_eq_ediv_of_nonneg (by omega),B1 (by omega) (by omega)];omega
theorem xN:∀(f:Nat) {m:Nat},m<10→fM f m=[byteOf ((48+m:Nat):Int)]
 | 0,_,_=>rfl
 | _+1,_,h=>by rw[fM,if_pos h]
theorem B2:∀(f g:Nat) {m:Nat},m<10^(f+1)→m<10^(g+1)→fM f m=fM g m
 | 0,g,m,h,_=>by rw[xN g (by omega)];rfl
 | f+1,0,m,_,h=>by rw[xN (f+1) (by omega)];rfl
 | f+1,g+1,m,h1,h2=>by
  unfold fM
  split
  ·rfl
  ·rw[Nat.pow_succ] at h1 h2
   rw[B2 f g (Nat.div_lt_of_lt_mul (by omega)) (Nat.div_lt_of_lt_mul (by omega))]
theorem EB {m:Nat} (h:10≤m) (hm:m<1000000000000000000000):fM 20 m=fM 20 (m/10)++[byteOf ((48+m%10:Nat):Int)]:=by
 rw[show fM 20 m=fM 19 (m/10)++[byteOf ((48+m%10:Nat):Int)] by rw[fM,if_neg (by omega)],B2 19 20 (by show m/10<100000000000000000000;omega) (by show m/10<1000000000000000000000;omega)]
theorem Ik {m:Nat} (h:m<10):fM 20 m=[byteOf ((48+m:Nat):Int)]:=xN 20 h
noncomputable def dv (t:List UInt8):Nat→Int
 | 0=>0
 | i+1=>dv t i*10+(av t i-48)
theorem Il (t u:List UInt8):∀i,i≤t.length→dv (t++u) i=dv t i
 | 0,_=>rfl
 | i+1,h=>by unfold dv;rw[Il t u i (by omega),s6 (by omega)]
structure qy (m:Nat) (t:List UInt8):Prop where
 len:0<t.length
 small:∀k,0<k→m<10^k→t.length≤k
 NZ:∀i,i<t.length→48≤av t i∧av t i≤57
 val:dv t t.length=m
theorem vp {x:Nat} (h:x<10):av [byteOf ((48+x:Nat):Int)] 0=((48+x:Nat):Int):=by
 rw[jf (by simp)];exact vl (by omega) (by omega)
theorem zg {m:Nat} (h:m<10):qy m [byteOf ((48+m:Nat):Int)] where
 len:=by simp
 small:=fun k hk _=>hk
 NZ:=fun i hi=>by
  obtain rfl:i=0:=by simpa using hi
  rw[vp h];omega
 val:=by
  show(0*10+(av [byteOf ((48+m:Nat):Int)] 0-48):Int)=m
  rw[vp h];omega
theorem wE:∀(f m:Nat),m<10^(f+1)→qy m (fM f m)
 | 0,m,h=>zg (by omega)
 | f+1,m,h=>by
  unfold fM
  split
  ·rename_i h;exact zg h
  ·rename_i lO
   rw[Nat.pow_succ] at h
   have ih:=wE f (m/10) (Nat.div_lt_of_lt_mul (by omega))
   have hl:(fM f (m/10)++[byteOf ((48+m%10:Nat):Int)]).length=(fM f (m/10)).length+1:=by simp
   have hb:av (fM f (m/10)++[byteOf ((48+m%10:Nat):Int)]) (fM f (m/10)).length=((48+m%10:Nat):Int):=by
    rw[xk (Nat.le_refl _) (by simp),Nat.sub_self,vp (by omega)]
   refine⟨by omega,fun k hk hm=>?_,fun i hi=>?_,?_⟩
   ·match k,hk,hm with
    | 1,_,hm=>omega
    | k+2,_,hm=>
     rw[Nat.pow_succ] at hm
     have:=ih.small (k+1) (by omega) (Nat.div_lt_of_lt_mul (by omega))
     omega
   ·by_cases he:i=(fM f (m/10)).length
    ·rw[he,hb];omega
    ·rw[s6 (by omega)];exact ih.NZ i (by omega)
   ·rw[hl,dv,Il _ _ _ (Nat.le_refl _),ih.val,hb];omega
structure acd (n:Int) (s:List UInt8):Prop where
 neg:n<0→∃t,s=byteOf 45::t∧qy n.natAbs t
 pos:¬n<0→qy n.natAbs s
theorem AK {n:Int} (h:dL n):acd n (gd n):=by
 have hd:=wE 20 n.natAbs (by have:=h.1;have:=h.2;show n.natAbs<1000000000000000000000;omega)
 exact⟨fun h0=>⟨_,by unfold gd;rw[if_pos h0];rfl,hd⟩,fun h0=>by unfold gd;rw[if_neg h0];exact hd⟩
theorem zh (c:UInt8) (t:List UInt8):av (c::t) 0=(c.toNat:Int):=by rw[jf (by simp)];rfl
theorem Ln (c:UInt8) (t:List UInt8) (i:Nat):av (c::t) (i+1)=av t i:=rfl
theorem qy.head {m:Nat} {t:List UInt8} (h:qy m t):av t 0≠45:=by have:=h.NZ 0 h.len;omega
theorem dash (t:List UInt8):av (byteOf 45::t) 0=45:=by rw[zh];exact vl (by decide) (by decide)
theorem Qt {n m:Int} (hn:dL n) (hm:dL m) (h:gd n=gd m):n=m:=by
 have dn:=AK hn
 have dm:=AK hm
 rw[h] at dn
 by_cases h0:n<0
 ·obtain⟨t,e1,d1⟩:=dn.neg h0
  by_cases h1:m<0
  ·obtain⟨u,e2,d2⟩:=dm.neg h1
   rw[e1] at e2
   cases e2
   have:=d1.val.symm.trans d2.val
   omega
  ·have:=(dm.pos h1).head
   rw[e1,dash] at this
   exact(this rfl).elim
 ·by_cases h1:m<0
  ·obtain⟨u,e2,d2⟩:=dm.neg h1
   have:=(dn.pos h0).head
   rw[e2,dash] at this
   exact(this rfl).elim
  ·have:=(dn.pos h0).val.symm.trans (dm.pos h1).val
   omega
theorem U8 {s:List UInt8} {n:Int} (hn:dL n) (h:gd n=s):gW s=n∧fw s=0:=by
 have hp:AB s:=⟨n,hn,h⟩
 constructor
 ·unfold gW
  rw[dif_pos hp]
  exact Qt (Classical.choose_spec hp).1 hn ((Classical.choose_spec hp).2.trans h.symm)
 ·unfold fw;rw[if_pos hp]
theorem vq {s:List UInt8} (h:¬AB s):gW s=0∧fw s=7:=by
 constructor
 ·unfold gW;rw[dif_neg h]
 ·unfold fw;rw[if_neg h]
theorem AL {s:List UInt8} {n e:Int} (h:gW s=n∧fw s=e):V.tuple [.int .i64 n,.int .i64 e]=.tuple [.int .i64 (gW s),.int .i64 (fw s)]:=by rw[h.1,h.2]
def agA (n:Int):Nat→List SV→Prop
 | 0,ss=>∃(m:Nat) (s:List UInt8),m≤9223372036854775808∧s.length+20≤9223372036854775807∧fM 20 n.natAbs=fM 20 m++s∧ss=[.val (.int .i64 n),.val (.int .u64 ((m:Nat):Int)),.val (.str s)]
 | _,_=>False
def agB:List SV→Nat
 | [_,.val (.int _ m),_]=>m.toNat
 | _=>0
structure pG (n:Int) (i M:Nat) (c:Nat→Int):Prop where
 small:M<10^(i-1)
 first:i=20→M=n.natAbs
 rest:i<20→fM 20 n.natAbs=(if M=0 then [] else fM 20 M)++lc c i
theorem Yj (c:Nat→Int) (i:Nat) (x:Int) (hi:i<20):lc (put c i x) i=UInt8.ofNat x.toNat::lc c (i+1):=by
 unfold lc
 rw[List.drop_eq_getElem_cons (by simp;omega)]
 simp only[List.map_cons,List.getElem_range]
 congr 1
 ·unfold put;rw[if_pos rfl]
 ·refine List.map_congr_left fun j hj=>?_
  unfold put
  rw[if_neg]
  intro e
  obtain⟨q,hq,e2⟩:=List.mem_iff_getElem.mp hj
  simp at e2
  omega
theorem pG.step {n:Int} {i M:Nat} {c:Nat→Int} (h:pG n i M c) (h0:1≤i) (h1:i≤20) (hM:i=20∨M≠0) (hb:M≤9223372036854775808):
  2≤i∧pG n (i-1) (M/10) (put c (i-1) (IntKind.u8.wrap (IntKind.u64.wrap ((48:Int)+(((M:Nat):Int)).tmod (10:Int))))):=by
 have hi:2≤i:=by
  rcases hM with e | e
  ·omega
  ·refine Classical.byContradiction fun c=>?_
   obtain rfl:i=1:=by omega
   have:=h.small
   omega
 refine⟨hi,⟨?_,fun e=>by omega,fun _=>?_⟩⟩
 ·have:=h.small
  rw[show i-1=i-1-1+1 by omega,Nat.pow_succ] at this
  exact Nat.div_lt_of_lt_mul (by omega)
 ·rw[Yj _ _ _ (by omega),show i-1+1=i by omega,Tu,Yi (by omega)]
  have hd:fM 20 M=(if M/10=0 then [] else fM 20 (M/10))++[byteOf ((48+M%10:Nat):Int)]:=by
   by_cases lO:M<10
   ·rw[Ik lO,if_pos (by omega),Nat.mod_eq_of_lt lO];rfl
   ·rw[if_neg (by omega),EB (by omega) (by omega)]
  by_cases e20:i=20
  ·subst e20
   rw[←h.first rfl,hd,show lc c 20=[] from rfl]
  ·have hr:=h.rest (by omega)
   have hM0:M≠0:=hM.resolve_left e20
   rw[if_neg hM0,hd,List.append_assoc] at hr
   exact hr
theorem pG.last {n:Int} {i M:Nat} {c:Nat→Int} (h:pG n i M c) (h1:i<20) (h0:M=0):fM 20 n.natAbs=lc c i:=by
 have:=h.rest h1
 rw[if_pos h0] at this
 exact this
def agC (n:Int):Nat→List SV→Prop
 | 0,ss=>∃(i M:Nat) (c:Nat→Int),(1≤i∧i≤20∧M≤9223372036854775808)∧ss=AD n ((M:Nat):Int) c i∧pG n i M c
 | _,_=>False
section
variable [Env] [aL] {vs:List V} {σ:St} {k:ai}
theorem U9 (h:Qn vs σ k):ag Tryz.prog 242 vs k σ:=by
 unfold Qn at h
 split at h
 ·rename_i n
  obtain⟨hn,h⟩:=h
  have hN:n.natAbs≤9223372036854775808:=by have:=hn.1;have:=hn.2;omega
  refine ag.cb (ar (Go.Ev.Clean.int _ _) aG) (.str _) (F242.bV (live:=AE) (call:=Ey) (n₀:=0) (σ:=Go.Ev.start) (fun h=>Ij h) rfl 1 (by kernel_rfl) Nat.lt_wfRel.wf (fun _ ss=>agB ss) (agA n) ?_ ?_ ?_) h
  ·intro k ss hI
   cases k with
   | zero=>obtain⟨m,s,_,_,_,rfl⟩:=hI;exact ay (ay (gv bg))
   | succ k=>exact hI.elim
  ·rw[ags]
   refine⟨rfl,aq (fun h2=>⟨n.natAbs,[],hN,by decide,by rw[List.append_nil],?_⟩) fun h2=>⟨n.natAbs,[],hN,by decide,by rw[List.append_nil],?_⟩⟩
   ·rw[wrap_u64,wrap_u64,show(0-n%18446744073709551616)%18446744073709551616=((n.natAbs:Nat):Int) by have:=hn.1;omega]
   ·rw[wrap_u64,show n%18446744073709551616=((n.natAbs:Nat):Int) by have:=hn.2;omega]
  ·intro k hk ss hI
   obtain rfl:k=0:=by omega
   obtain⟨m,s,hm,hs,hd,rfl⟩:=hI
   have hdl:=(wE 20 n.natAbs (by show n.natAbs<1000000000000000000000;omega)).small 20 (by decide) (by show n.natAbs<100000000000000000000;omega)
   have Db:=(wE 20 m (by show m<1000000000000000000000;omega)).len
   have hll:s.length<20:=by rw[hd,List.length_append] at hdl;omega
   rw[agt]
   refine⟨rfl,aq (fun h1=>?_) fun h1=>?_⟩
   ·rw[Tu,Yi (by omega),Lm (by omega)]
    refine⟨⟨rfl,by decide⟩,by simp only[List.length_singleton];omega,⟨rfl,by decide⟩,⟨m/10,_,by omega,?_,?_,rfl⟩,?_⟩
    ·simp;omega
    ·rw[hd,EB (by omega) (by omega),List.append_assoc]
    ·show(((m/10:Nat):Int)).toNat<(((m:Nat):Int)).toNat
     omega
   ·rw[Yi (by omega)]
    rw[Ik (m:=m) (by omega)] at hd
    refine⟨by simp only[List.length_singleton];omega,rfl,aq (fun h2=>⟨by simp only[List.length_singleton,List.length_append];omega,?_⟩) fun h2=>?_⟩
    ·unfold gd;rw[if_pos h2,hd];rfl
    ·unfold gd;rw[if_neg h2,hd];rfl
 ·exact h.elim
theorem Im:∀ {f:FuncId} {vs:List V} {σ:St} {k:ai},AF f vs σ k→ag Tryz.prog f vs k σ:=fun h=>aD U9 Ij h
omit [aL] in
theorem Lo (n m:Int) (c:Nat→Int) (i:Nat):∀s∈AD n m c i,s.clean:=by
 unfold AD
 exact ay (ay (ax (fun u hu=>by
  obtain⟨j,_,rfl⟩:=List.mem_map.1 hu
  exact Go.Ev.Clean.int _ _) (ay bg)))
omit [Env] [aL] in
theorem N0 {c:Nat→Int} {n:Int} {i:Nat} (h:gd n=(if n<0 then [UInt8.ofNat (45:Int).toNat] else [])++lc c i):(n<0→gd n=UInt8.ofNat (45:Int).toNat::lc c i)∧(¬n<0→gd n=lc c i):=
 ⟨fun h3=>by rw[h,if_pos h3];rfl,fun h3=>by rw[h,if_neg h3];rfl⟩
theorem Va (h:Qo vs σ k):ag Tryz.prog 269 vs k σ:=by
 unfold Qo at h
 split at h
 ·rename_i n
  obtain⟨hn,h⟩:=h
  have hN:n.natAbs≤9223372036854775808:=by have:=hn.1;have:=hn.2;omega
  refine ag.cb (ar (Go.Ev.Clean.int _ _) aG) (.str _) (F269.bV (live:=wD) (call:=AF) (n₀:=0) (σ:=Go.Ev.start) (fun h=>Im h) rfl 1 (by kernel_rfl) Nat.lt_wfRel.wf (fun _ ss=>bF ss) (agC n) ?_ ?_ ?_) h
  ·intro k ss hI
   cases k with
   | zero=>obtain⟨i,M,c,_,rfl,_⟩:=hI;exact Lo _ _ _ _
   | succ k=>exact hI.elim
  ·rw[agu]
   have hI:pG n 20 n.natAbs (fun _=>0):=⟨by show n.natAbs<10000000000000000000;omega,fun _=>rfl,fun h=>by omega⟩
   refine⟨rfl,aq (fun h2=>⟨20,n.natAbs,_,⟨by decide,by decide,hN⟩,?_,hI⟩) fun h2=>⟨20,n.natAbs,_,⟨by decide,by decide,hN⟩,?_,hI⟩⟩
   ·rw[wrap_u64,wrap_u64,show(0-n%18446744073709551616)%18446744073709551616=((n.natAbs:Nat):Int) by have:=hn.1;omega];rfl
   ·rw[wrap_u64,show n%18446744073709551616=((n.natAbs:Nat):Int) by have:=hn.2;omega];rfl
  ·intro k hk ss hI
   obtain rfl:k=0:=by omega
   obtain⟨i,M,c,⟨h0,h1,hM⟩,rfl,hI⟩:=hI
   have fin:i<20→M=0→gd n=(if n<0 then [UInt8.ofNat (45:Int).toNat] else [])++lc c i:=fun h2 h3=>by unfold gd;rw[hI.last h2 h3];rfl
   by_cases h20:i=20
   ·subst h20
    have hs:=hI.step h0 h1 (.inl rfl) hM
    exact(U0 _ _ n ((M:Nat):Int) c).mpr ⟨rfl,⟨rfl,by decide⟩,⟨rfl,by decide⟩,⟨19,M/10,_,⟨by omega,by omega,by omega⟩,by rw[Lm (by omega)],hs.2⟩,(by show(19:Nat)<20;decide)⟩
   ·rw[agv _ _ _ _ _ i h0 (by omega)]
    refine⟨rfl,rfl,aq (fun h2=>?_) fun h2=>⟨rfl,aq (fun h3=>?_) fun h3=>?_⟩⟩
    ·have hs:=hI.step h0 h1 (.inr (by omega)) hM
     exact⟨⟨rfl,by decide⟩,⟨rfl,by decide⟩,⟨i-1,M/10,_,⟨by omega,by omega,by omega⟩,by rw[Lm (by omega)],hs.2⟩,(by show i-1<i;omega)⟩
    ·rw[(N0 (fin (by omega) (by omega))).1 h3]
    ·rw[(N0 (fin (by omega) (by omega))).2 h3]
 ·exact h.elim
theorem Io:∀ {f:FuncId} {vs:List V} {σ:St} {k:ai},Ez f vs σ k→ag Tryz.prog f vs k σ:=fun h=>aD Va Im h
end
end Go.Proofs.YtbajncpfmemdgaaGreatDoor
end
section
namespace Go.Proofs.YtbajncpfmemdgaaGreatDoor
open Go Go.Ev Go.IntWalk
theorem oU (x:Int):IntKind.i64.wrap x=Int.bmod x 18446744073709551616:=by
 unfold IntKind.wrap Int.bmod
 show(if (true&&_)=true then x%18446744073709551616-18446744073709551616 else x%18446744073709551616)=if x%18446744073709551616<(18446744073709551616+1)/2 then x%18446744073709551616 else x%18446744073709551616-18446744073709551616
 simp only[Bool.true_and,decide_eq_true_eq]
 show(if (9223372036854775808:Int)≤x%18446744073709551616 then _ else _)=_
 split<;>split<;>first | rfl | omega
theorem B3 (x:Int):dL (IntKind.i64.wrap x):=by
 rw[oU]
 have h1:=Int.le_bmod (x:=x) (m:=18446744073709551616) (by decide)
 have h2:=Int.bmod_lt (x:=x) (m:=18446744073709551616) (by decide)
 constructor<;>omega
theorem Qu {x:Int} (h:dL x):IntKind.i64.wrap x=x:=by
 have:=h.1;have:=h.2
 exact i64_in x (by omega)
def lV (s t:List UInt8):Prop:=(t=s∧∀u,s≠byteOf 45::u)∨s=byteOf 45::t
theorem lV.num {s t:List UInt8} (h:lV s t) (hp:AB s):∃n,dL n∧gd n=s∧qy n.natAbs t∧(n<0↔s=byteOf 45::t):=by
 obtain⟨n,hn,he⟩:=hp
 have hd:=AK hn
 rw[he] at hd
 refine⟨n,hn,he,?_⟩
 by_cases h0:n<0
 ·obtain⟨u,e,d⟩:=hd.neg h0
  rcases h with ⟨_,h⟩ | h
  ·exact(h u e).elim
  ·rw[h] at e;cases e;exact⟨d,fun _=>h,fun _=>h0⟩
 ·have d:=hd.pos h0
  rcases h with ⟨rfl,h⟩ | h
  ·exact⟨d,fun h=>(h0 h).elim,fun e=>(h _ e).elim⟩
  ·have:=d.head;rw[h,dash] at this;exact(this rfl).elim
theorem lV.len {s t:List UInt8} (h:lV s t):(t.length<s.length↔s=byteOf 45::t)∧t.length≤s.length∧s.length≤t.length+1:=by
 rcases h with ⟨rfl,h⟩ | rfl
 ·exact⟨⟨fun c=>by omega,fun e=>(h _ e).elim⟩,by omega,by omega⟩
 ·simp
theorem Tv {n:Int} (hn:dL n) {t:List UInt8} (h:qy n.natAbs t):t.length≤19:=h.small 19 (by decide) (by have:=hn.1;have:=hn.2;show n.natAbs<10000000000000000000;omega)
theorem lV.done {s t:List UInt8} (h:lV s t) {x:Int} (hx:x=IntKind.i64.wrap (if s=byteOf 45::t then -dv t t.length else dv t t.length)):AB s↔gd x=s:=by
 constructor
 ·intro hp
  obtain⟨n,hn,he,hd,hs⟩:=h.num hp
  rw[hd.val] at hx
  have:x=n:=by
   rw[hx]
   refine Eq.trans (congrArg IntKind.i64.wrap ?_) (Qu hn)
   by_cases c:s=byteOf 45::t
   ·rw[if_pos c];have:=hs.mpr c;omega
   ·rw[if_neg c];have:¬n<0:=fun c2=>c (hs.mp c2);omega
  rw[this];exact he
 ·intro he
  exact⟨x,by rw[hx];exact B3 _,he⟩
theorem lV.ends {s t:List UInt8} (h:lV s t) {x:Int} (hx:x=IntKind.i64.wrap (if s=byteOf 45::t then -dv t t.length else dv t t.length)) {A:V→Prop} (hA:A (.tuple [.int .i64 (gW s),.int .i64 (fw s)])):
  dL x∧aa (decide (gd x≠s)) (A (.tuple [.int .i64 0,.int .i64 7])) (A (.tuple [.int .i64 x,.int .i64 0])):=by
 have hxP:dL x:=by rw[hx];exact B3 _
 refine⟨hxP,aq (fun h1=>?_) fun h1=>?_⟩
 ·rw[AL (vq fun hp=>h1 ((h.done hx).mp hp))];exact hA
 ·rw[AL (U8 hxP (Classical.not_not.mp h1))];exact hA
def Yk (s:List UInt8):Nat→List SV→Prop
 | 0,ss=>∃(t:List UInt8) (i:Nat),(lV s t∧t.length<20∧i≤t.length∧∀j,j<i→48≤av t j∧av t j≤57)∧
   ss=[.val (.str s),.val (.str t),.val (.int .u64 (dv t i%18446744073709551616)),.row (len t) (dE t) 1,.val (.int .i64 ((t.length:Nat):Int)),.val (.int .i64 ((i:Nat):Int))]
 | _,_=>False
def Yl (s:List UInt8):Nat→List SV→Prop
 | 0,ss=>∃(t:List UInt8) (d i:Nat),(lV s t∧t.length<21∧i≤t.length∧d=s.length-t.length∧∀j,j<i→48≤av t j∧av t j≤57)∧
   ss=[.val (.str s),.val (.int .i64 (IntKind.i64.wrap (dv t i))),.val (.int .i64 ((d:Nat):Int)),.val (.int .i64 ((i+d:Nat):Int))]
 | _,_=>False
def Ym:Nat→List SV→Nat:=fun n ss=>n-bF ss
theorem N1 {s:List UInt8} (h0:s≠[]) (h:av s 0=45):s=byteOf 45::s.drop 1:=by
 cases s with
 | nil=>exact(h0 rfl).elim
 | cons c t=>
  rw[zh] at h
  rw[show c=byteOf 45 from UInt8.toNat_inj.mp (by show c.toNat=45;omega)];rfl
theorem EC {s:List UInt8} (h:av s 0≠45):∀u,s≠byteOf 45::u:=fun u e=>h (by rw[e,dash])
theorem hL:(len:List UInt8→Nat)=List.length:=funext fun _=>aO _
theorem N2 [Env] {n:Nat} {t:List UInt8} {l:List SV} (hl:∀u∈l,u.clean):∀u∈SV.row n (dE t) 1::l,u.clean:=ax (fun i _ u hu=>by
 rw[show(dE t i).cells=[.int .u8 (av t i)] from rfl] at hu
 obtain rfl:=List.mem_singleton.mp hu
 exact Go.Ev.Clean.int _ _) hl
section
variable [Env] [aL] {vs:List V} {σ:St} {k:ai}
theorem Vb (h:Qq vs σ k):ag Tryz.prog 271 vs k σ:=by
 unfold Qq at h
 split at h
 ·rename_i s
  refine ag.cb (ar (Go.Ev.Clean.str _) aG) (.tuple (bD (.int _ _) (bD (.int _ _) gb))) (F271.bV (live:=AG) (call:=Ez) (n₀:=0) (σ:=Go.Ev.start) (fun h=>Io h) rfl 1 (by kernel_rfl) Nat.lt_wfRel.wf (fun _ ss=>Ym 20 ss) (Yk s) ?_ ?_ ?_) h
  ·intro k ss hI
   cases k with
   | zero=>obtain⟨t,i,_,rfl⟩:=hI;exact gv (gv (ay (N2 (ay (ay bg)))))
   | succ k=>exact hI.elim
  ·rw[AH];unfold Qp
   rw[hL]
   have go:∀ {t:List UInt8},lV s t→t.length<20→Yk s 0 [.val (.str s),.val (.str t),.val (.int .u64 (0:Int)),.row t.length (dE t) 1,.val (.int .i64 ((t.length:Nat):Int)),.val (.int .i64 (0:Int))]:=fun {t} h1 h2=>
    ⟨t,0,⟨h1,h2,Nat.zero_le _,fun j hj=>absurd hj (Nat.not_lt_zero _)⟩,by rw[hL];rfl⟩
   have no:∀ {t:List UInt8},lV s t→¬t.length<20→V.tuple [.int .i64 (0:Int),.int .i64 (7:Int)]=.tuple [.int .i64 (gW s),.int .i64 (fw s)]:=fun h1 h2=>AL (vq fun hp=>by
    obtain⟨n,hn,_,hd,_⟩:=h1.num hp
    have:=Tv hn hd;omega)
   refine aq (fun h0=>?_) fun h0=>?_
   ·have hl:0<s.length:=List.length_pos_iff.mpr h0
    refine⟨⟨by omega,by omega⟩,rfl,aq (fun h1=>?_) fun h1=>?_⟩
    ·have fi:av s 0=45:=h1
     have hs:lV s (s.drop 1):=.inr (N1 h0 fi)
     have ht:cR (1:Int).toNat (cV s ((s.length:Nat):Int).toNat)=s.drop 1:=by
      rw[cA,ea,eG,List.take_length];rfl
     rw[ht]
     refine⟨⟨by omega,by omega,by omega⟩,rfl,aq (fun h2=>no hs (by omega)) fun h2=>⟨?_,⟨rfl,rfl⟩,go hs (by omega)⟩⟩
     omega
    ·have hs:lV s s:=.inl ⟨rfl,EC h1⟩
     exact⟨rfl,aq (fun h2=>no hs (by omega)) fun h2=>⟨by omega,⟨rfl,rfl⟩,go hs (by omega)⟩⟩
   ·have h0:s=[]:=Classical.not_not.mp h0
    subst h0
    have hs:lV [] []:=.inl ⟨rfl,fun u e=>by cases e⟩
    exact⟨rfl,aq (fun h2=>no hs (by have:((([]:List UInt8).length:Nat):Int)=0:=rfl;omega)) fun h2=>⟨by decide,⟨rfl,rfl⟩,go hs (by decide)⟩⟩
  ·intro k hk ss hI
   obtain rfl:k=0:=by omega
   obtain⟨t,i,⟨hs,hl,hi,hd⟩,rfl⟩:=hI
   rw[agw]
   rw[hL]
   have hr:=iJ t i
   have no:¬(48≤av t i∧av t i≤57)→i<t.length→V.tuple [.int .i64 (0:Int),.int .i64 (7:Int)]=.tuple [.int .i64 (gW s),.int .i64 (fw s)]:=fun h1 h2=>AL (vq fun hp=>by
    obtain⟨n,hn,_,Yn,_⟩:=hs.num hp
    exact h1 (Yn.NZ i h2))
   refine⟨rfl,aq (fun h1=>?_) fun h1=>?_⟩
   ·have fi:i<t.length:=by omega
    refine⟨⟨by omega,h1⟩,fi,rfl,aq (fun h2=>no (fun c=>by rw[cA] at h2;omega) fi) fun h2=>⟨rfl,aq (fun h3=>no (fun c=>by rw[cA] at h3;omega) fi) fun h3=>?_⟩⟩
    rw[cA] at h2 h3⊢
    refine⟨⟨rfl,rfl⟩,⟨t,i+1,⟨hs,hl,fi,fun j hj=>?_⟩,?_⟩,?_⟩
    ·by_cases e:j=i
     ·subst e;omega
     ·exact hd j (by omega)
    ·rw[u8n (by omega) (by omega),wrap_u64,wrap_u64,wrap_u64,i64_in ((i:Int)+1) (by omega)]
     congr 5
     ·show _=(dv t i*10+(av t i-48))%18446744073709551616
      omega
     ·exact(aO t).symm
    ·show 20-(IntKind.i64.wrap (((i:Nat):Int)+1)).toNat<20-(((i:Nat):Int)).toNat
     rw[i64_in ((i:Int)+1) (by omega)];omega
   ·obtain rfl:i=t.length:=by omega
    refine⟨rfl,aq (fun h2=>?_) fun h2=>?_⟩
    ·refine hs.ends (A:=fun v=>v=V.tuple [.int .i64 (gW s),.int .i64 (fw s)]) ?_ rfl
     rw[if_pos (hs.len.1.mp (by omega)),wrap_u64,oU,oU]
     rw[show(0-dv t t.length%18446744073709551616)%18446744073709551616=(-dv t t.length)%18446744073709551616 by omega]
     exact Int.emod_bmod ..
    ·refine hs.ends (A:=fun v=>v=V.tuple [.int .i64 (gW s),.int .i64 (fw s)]) ?_ rfl
     rw[if_neg (fun c=>h2 (by have:=hs.len.1.mpr c;omega)),oU,oU]
     exact Int.emod_bmod ..
 ·exact h.elim
theorem Ip:∀ {f:FuncId} {vs:List V} {σ:St} {k:ai},EA f vs σ k→ag Tryz.prog f vs k σ:=fun h=>aD Vb Io h
theorem Vc (h:Qr vs σ k):ag Tryz.prog 245 vs k σ:=by
 unfold Qr at h
 split at h
 ·rename_i s
  refine ag.cb (ar (Go.Ev.Clean.str _) aG) (.tuple (bD (.int _ _) (bD (.int _ _) gb))) (F245.bV (live:=AJ) (call:=EA) (n₀:=0) (σ:=Go.Ev.start) (fun h=>Ip h) rfl 1 (by kernel_rfl) Nat.lt_wfRel.wf (fun _ ss=>Ym 30 ss) (Yl s) ?_ ?_ ?_) h
  ·intro k ss hI
   cases k with
   | zero=>obtain⟨t,d,i,_,rfl⟩:=hI;exact gv (ay (ay (ay bg)))
   | succ k=>exact hI.elim
  ·rw[agx]
   rw[hL]
   have no:∀ {t:List UInt8},lV s t→((s.length:Nat):Int)>20→V.tuple [.int .i64 (0:Int),.int .i64 (7:Int)]=.tuple [.int .i64 (gW s),.int .i64 (fw s)]:=fun {t} h1 h2=>AL (vq fun hp=>by
    obtain⟨n,hn,_,hd,_⟩:=h1.num hp
    have:=Tv hn hd;have:=h1.len.2.2;omega)
   have go0:lV s s→¬((s.length:Nat):Int)>20→Yl s 0 [.val (.str s),.val (.int .i64 (0:Int)),.val (.int .i64 (0:Int)),.val (.int .i64 (0:Int))]:=fun h1 h2=>
    ⟨s,0,0,⟨h1,by omega,Nat.zero_le _,by omega,fun j hj=>absurd hj (Nat.not_lt_zero _)⟩,rfl⟩
   refine⟨rfl,aq (fun h0=>?_) fun h0=>?_⟩
   ·refine⟨⟨by omega,by omega⟩,rfl,aq (fun h1=>?_) fun h1=>?_⟩
    ·have hs:lV s (s.drop 1):=.inr (N1 (fun c=>by subst c;exact absurd h0 (by decide)) h1)
     have:=hs.len
     refine⟨rfl,aq (fun h2=>no hs h2) fun h2=>⟨s.drop 1,1,0,⟨hs,by omega,Nat.zero_le _,?_,fun j hj=>absurd hj (Nat.not_lt_zero _)⟩,rfl⟩⟩
     simp;omega
    ·have hs:lV s s:=.inl ⟨rfl,EC h1⟩
     exact⟨rfl,aq (fun h2=>no hs h2) fun h2=>go0 hs h2⟩
   ·have hs:lV s s:=.inl ⟨rfl,fun u e=>by subst e;simp at h0⟩
    exact⟨rfl,aq (fun h2=>no hs h2) fun h2=>go0 hs h2⟩
  ·intro k hk ss hI
   obtain rfl:k=0:=by omega
   obtain⟨t,d,i,⟨hs,hl,hi,Dv,hd⟩,rfl⟩:=hI
   have hle:=hs.len
   rw[agy]
   rw[hL]
   have hb:i<t.length→bu s ((i+d:Nat):Int)=av t i:=fun hi=>by
    show av s (((i+d:Nat):Int)).toNat=_
    rw[cA]
    rcases hs with ⟨rfl,_⟩ | hc
    ·rw[show d=0 by omega];rfl
    ·rw[hc] at Dv⊢
     rw[show d=1 by simp at Dv;omega];exact Ln _ _ _
   have hr:=iJ t i
   have no:¬(48≤av t i∧av t i≤57)→i<t.length→V.tuple [.int .i64 (0:Int),.int .i64 (7:Int)]=.tuple [.int .i64 (gW s),.int .i64 (fw s)]:=fun h1 h2=>AL (vq fun hp=>by
    obtain⟨n,hn,_,Yn,_⟩:=hs.num hp
    exact h1 (Yn.NZ i h2))
   refine⟨rfl,aq (fun h1=>?_) fun h1=>?_⟩
   ·have fi:i<t.length:=by omega
    rw[hb fi]
    refine⟨⟨by omega,h1⟩,rfl,aq (fun h2=>no (by omega) fi) fun h2=>⟨⟨by omega,h1⟩,rfl,aq (fun h3=>no (by omega) fi) fun h3=>⟨⟨by omega,h1⟩,⟨t,d,i+1,⟨hs,hl,fi,Dv,fun j hj=>?_⟩,?_⟩,?_⟩⟩⟩
    ·by_cases e:j=i
     ·subst e;omega
     ·exact hd j (by omega)
    ·rw[i64_in (((i+d:Nat):Int)+1) (by omega),i64_in (av t i) (by omega),show((i+d:Nat):Int)+1=((i+1+d:Nat):Int) by omega]
     congr 3
     ·show _=V.int .i64 (IntKind.i64.wrap (dv t i*10+(av t i-48)))
      simp only[oU]
      rw[Int.bmod_mul_bmod,Int.bmod_add_bmod,Int.bmod_sub_bmod,show dv t i*10+av t i-48=dv t i*10+(av t i-48) by omega]
    ·show 30-(IntKind.i64.wrap (((i+d:Nat):Int)+1)).toNat<30-(((i+d:Nat):Int)).toNat
     rw[i64_in (((i+d:Nat):Int)+1) (by omega)];omega
   ·obtain rfl:i=t.length:=by omega
    refine⟨rfl,aq (fun h2=>?_) fun h2=>?_⟩
    ·refine hs.ends (A:=fun v=>v=V.tuple [.int .i64 (gW s),.int .i64 (fw s)]) ?_ rfl
     rw[if_pos (hle.1.mp (by omega)),oU,oU,oU,Int.zero_sub,Int.bmod_neg_bmod]
    ·refine hs.ends (A:=fun v=>v=V.tuple [.int .i64 (gW s),.int .i64 (fw s)]) ?_ rfl
     rw[if_neg (fun c=>h2 (by have:=hle.1.mpr c;omega))]
 ·exact h.elim
theorem Iq:∀ {f:FuncId} {vs:List V} {σ:St} {k:ai},Lk f vs σ k→ag Tryz.prog f vs k σ:=fun h=>aD Vc Ip h
end
end Go.Proofs.YtbajncpfmemdgaaGreatDoor
end
section
set_option exponentiation.threshold 3000
namespace Go.Ev.Flt
open Ieee
def val (s:Bool) (M:Nat) (p:Int):Int:=if s then -((M*2^(p+1074).toNat:Nat):Int) else((M*2^(p+1074).toNat:Nat):Int)
theorem ED (s:Bool) (M a b:Nat):signed s M (a+b)=signed s M a*((2^b:Nat):Int):=by
 unfold signed
 rw[Nat.shiftLeft_eq,Nat.shiftLeft_eq,Nat.pow_add,←Nat.mul_assoc]
 cases s with
 | true=>rw[if_pos rfl,if_pos rfl,Int.neg_mul,←Int.natCast_mul]
 | false=>rw[if_neg Bool.false_ne_true,if_neg Bool.false_ne_true,←Int.natCast_mul]
theorem zi (s:Bool) (M:Nat) (p:Int) (base:Int) (hb:base≤p) (h: -1074≤base):val s M p=signed s M (p-base).toNat*((2^(base+1074).toNat:Nat):Int):=by
 have e:(p+1074).toNat=(p-base).toNat+(base+1074).toNat:=by omega
 rw[←ED,←e]
 unfold val signed
 rw[Nat.shiftLeft_eq]
theorem GF (x y:Int) (c:Nat) (hc:0<c):compare x y=compare (x*(c:Int)) (y*(c:Int)):=by
 have gh:(0:Int)<(c:Int):=by omega
 rcases Int.lt_trichotomy x y with h | h | h
 ·have h':=Int.mul_lt_mul_of_pos_right h gh
  simp only[compare,compareOfLessAndEq,if_pos h,if_pos h']
 ·subst h;simp only[compare,compareOfLessAndEq,Int.lt_irrefl,if_false]
 ·have h':=Int.mul_lt_mul_of_pos_right h gh
  simp only[compare,compareOfLessAndEq,if_neg (Int.not_lt.mpr (Int.le_of_lt h)),if_neg (Int.not_lt.mpr (Int.le_of_lt h')),if_neg (Int.ne_of_gt h),if_neg (Int.ne_of_gt h')]
theorem qz {s t:Bool} {M N:Nat} {p q:Int} (hp: -1074≤p) (hq: -1074≤q):Datum.order (.number s M p) (.number t N q)=some (compare (val s M p) (val t N q)):=by
 show some (compare (signed s M (p-min p q).toNat) (signed t N (q-min p q).toNat))=_
 rw[GF _ _ (2^(min p q+1074).toNat) (Nat.two_pow_pos _),←zi s M p (min p q) (by omega) (by omega),←zi t N q (min p q) (by omega) (by omega)]
theorem cmp_eq (x y:Int):(some (compare x y)==some Ordering.eq)=decide (x=y):=by
 by_cases h:x=y
 ·subst h;simp [compare,compareOfLessAndEq]
 ·rw[decide_eq_false h]
  by_cases h':x<y<;>simp [compare,compareOfLessAndEq,h,h']
theorem Yo (x y:Int):(some (compare x y)==some Ordering.lt)=decide (x<y):=by
 by_cases h:x<y
 ·simp [compare,compareOfLessAndEq,h]
 ·rw[decide_eq_false h]
  by_cases h':x=y<;>simp [compare,compareOfLessAndEq,h,h']
theorem Yp (x y:Int):(some (compare x y)==some Ordering.gt||some (compare x y)==some Ordering.eq)=decide (y≤x):=by
 by_cases h:x<y
 ·rw[decide_eq_false (by omega)];simp [compare,compareOfLessAndEq,h]
 ·rw[decide_eq_true (by omega)]
  by_cases h':x=y<;>simp [compare,compareOfLessAndEq,h,h']
theorem EE (s:Bool) (n d:Nat):Toward.zero.cut s n d=n/2^d:=by
 unfold Toward.cut
 simp only[Bool.toNat_false,Nat.add_zero,Nat.one_shiftLeft]
 by_cases h:d≤n.log2+2
 ·rw[Nat.min_eq_left h]
 ·rw[Nat.min_eq_right (by omega)]
  have hn:n<2^(n.log2+2):=Nat.lt_of_lt_of_le Nat.lt_log2_self (Nat.pow_le_pow_right (by decide) (by omega))
  rw[Nat.div_eq_of_lt hn,Nat.div_eq_of_lt (Nat.lt_of_lt_of_le hn (Nat.pow_le_pow_right (by decide) (by omega)))]
theorem Yq {M Q:Nat} {p:Int} (hp: -1074≤p) (h:M*2^(p+1074).toNat=Q*2^1074):(M <<< p.toNat)/2^(-p).toNat=Q:=by
 rw[Nat.shiftLeft_eq]
 by_cases h0:0≤p
 ·have e:(p+1074).toNat=p.toNat+1074:=by omega
  rw[e,Nat.pow_add,←Nat.mul_assoc] at h
  have h':=Nat.eq_of_mul_eq_mul_right (Nat.two_pow_pos 1074) h
  rw[h',show(-p).toNat=0 by omega,Nat.pow_zero,Nat.div_one]
 ·have e:1074=(-p).toNat+(p+1074).toNat:=by omega
  rw[show Q*2^1074=Q*2^((-p).toNat+(p+1074).toNat) by rw[←e],Nat.pow_add,←Nat.mul_assoc] at h
  have h':=Nat.eq_of_mul_eq_mul_right (Nat.two_pow_pos _) h
  rw[show p.toNat=0 by omega,Nat.pow_zero,Nat.mul_one,h',Nat.mul_div_cancel _ (Nat.two_pow_pos _)]
theorem N3 {s:Bool} {M Q:Nat} {p:Int} (hp: -1074≤p) (h:M*2^(p+1074).toNat=Q*2^1074):(Datum.number s M p).toInt .zero=some (signed s Q 0):=by
 show some (signed s (Toward.zero.cut s (M <<< p.toNat) (-p).toNat) 0)=_
 rw[EE,Yq hp h]
theorem xO (s:Bool) (r:Nat):double.word s r=(if s then 9223372036854775808 else 0)+r:=by
 unfold Format.word
 cases s
 ·show r=0+r;omega
 ·rfl
theorem qU (s:Bool) (e f:Nat) (he:e≤2045) (hf:f<4503599627370496):double.read (double.word s ((e+1)*4503599627370496+f))=.number s (4503599627370496+f) (-1074+(e:Int)):=by
 rw[xO]
 unfold Format.read
 rw[show double.signWeight=9223372036854775808 from rfl,show double.binade=4503599627370496 from rfl,show double.infRung=9218868437227405312 from rfl,show double.leastPlace= -1074 from rfl]
 have e1:((if s then 9223372036854775808 else 0)+((e+1)*4503599627370496+f))%9223372036854775808=(e+1)*4503599627370496+f:=by cases s<;>simp<;>omega
 have e2:(((if s then 9223372036854775808 else 0)+((e+1)*4503599627370496+f))/9223372036854775808%2==1)=s:=by
  cases s
  ·have:(0+((e+1)*4503599627370496+f))/9223372036854775808%2=0:=by omega
   simp only[Bool.false_eq_true,if_false,this];rfl
  ·have:(9223372036854775808+((e+1)*4503599627370496+f))/9223372036854775808%2=1:=by omega
   simp only[if_true,this];rfl
 have e3:((e+1)*4503599627370496+f)%4503599627370496=f:=by omega
 have e4:((e+1)*4503599627370496+f)/4503599627370496-1=e:=by omega
 dsimp only
 rw[e1,e2,e3,e4,if_neg (by omega),if_pos (by omega)]
def eT (m:Nat):Nat:=if m.log2≤52 then m*2^(52-m.log2) else
 m/2^(m.log2-52)+(decide (2^(m.log2-52)<2*(m%2^(m.log2-52)))||((2^(m.log2-52)==2*(m%2^(m.log2-52)))&&(m/2^(m.log2-52)%2==1))).toNat
theorem oV {m:Nat} (h0:m≠0):4503599627370496≤eT m∧eT m≤9007199254740992∧(m.log2≤52→eT m<9007199254740992):=by
 have h1:2^m.log2≤m:=Nat.log2_self_le h0
 have h2:m<2^(m.log2+1):=Nat.lt_log2_self
 unfold eT
 split
 ·rename_i h
  have a:2^m.log2*2^(52-m.log2)=4503599627370496:=by rw[←Nat.pow_add,show m.log2+(52-m.log2)=52 by omega]
  have b:2^(m.log2+1)*2^(52-m.log2)=9007199254740992:=by rw[←Nat.pow_add,show m.log2+1+(52-m.log2)=53 by omega]
  have c:=Nat.mul_le_mul_right (2^(52-m.log2)) h1
  have d:=Nat.mul_lt_mul_of_pos_right h2 (Nat.two_pow_pos (52-m.log2))
  omega
 ·rename_i h
  have a:2^m.log2=4503599627370496*2^(m.log2-52):=by rw[show(4503599627370496:Nat)=2^52 from rfl,←Nat.pow_add,show 52+(m.log2-52)=m.log2 by omega]
  have b:2^(m.log2+1)=9007199254740992*2^(m.log2-52):=by rw[show(9007199254740992:Nat)=2^53 from rfl,←Nat.pow_add,show 53+(m.log2-52)=m.log2+1 by omega]
  rw[a] at h1
  rw[b] at h2
  have c:4503599627370496≤m/2^(m.log2-52):=(Nat.le_div_iff_mul_le (Nat.two_pow_pos _)).mpr h1
  have d:m/2^(m.log2-52)<9007199254740992:=(Nat.div_lt_iff_lt_mul (Nat.two_pow_pos _)).mpr h2
  have e:=Bool.toNat_le (decide (2^(m.log2-52)<2*(m%2^(m.log2-52)))||((2^(m.log2-52)==2*(m%2^(m.log2-52)))&&(m/2^(m.log2-52)%2==1)))
  exact⟨by omega,by omega,fun h=>by omega⟩
theorem B4 (s:Bool) {m:Nat} (h0:m≠0) (h1:m.log2≤63):double.nearest s m 0=double.word s ((m.log2+1022)*4503599627370496+eT m):=by
 have hk:=oV h0
 unfold Format.nearest
 rw[if_neg h0]
 rw[show double.leastPlace= -1074 from rfl,show double.binade=4503599627370496 from rfl,show double.infRung=9218868437227405312 from rfl,show(double.fractionBits:Int)=52 from rfl]
 have hl:max ((0:Int)+(m.log2:Int)-52) (-1074)=(m.log2:Int)-52:=by omega
 dsimp only
 rw[hl]
 have e1:((m.log2:Int)-52 - -1074).toNat=m.log2+1022:=by omega
 rw[e1]
 have e2:Toward.even.cut s (m <<< ((0:Int)-((m.log2:Int)-52)).toNat) ((m.log2:Int)-52-0).toNat=eT m:=by
  unfold eT Toward.cut
  dsimp only
  by_cases h:m.log2≤52
  ·rw[if_pos h,show((0:Int)-((m.log2:Int)-52)).toNat=52-m.log2 by omega,show((m.log2:Int)-52-0).toNat=0 by omega,Nat.shiftLeft_eq,Nat.zero_min]
   simp only[Nat.shiftLeft_zero,Nat.div_one,Nat.mod_one,Nat.mul_zero]
   rfl
  ·rw[if_neg h,show((0:Int)-((m.log2:Int)-52)).toNat=0 by omega,show((m.log2:Int)-52-0).toNat=m.log2-52 by omega,Nat.shiftLeft_zero]
   rw[show min (m.log2-52) (m.log2+2)=m.log2-52 by omega,Nat.one_shiftLeft]
 rw[e2,Nat.min_eq_left (by omega)]
def nh (m:Nat):Nat:=if m.log2≤52 then m else eT m*2^(m.log2-52)
theorem Qv (s:Bool) {m:Nat} (h0:m≠0) (h1:m.log2≤63):∃M p,double.read (double.nearest s m 0)=.number s M p∧ -1074≤p∧M*2^(p+1074).toNat=nh m*2^1074∧M≠0:=by
 obtain⟨k1,k2,k3⟩:=oV h0
 rw[B4 s h0 h1]
 have hr:eT m*2^(m.log2+1022)=nh m*2^1074:=by
  unfold nh
  split
  ·rename_i h
   unfold eT
   rw[if_pos h,Nat.mul_assoc,←Nat.pow_add,show 52-m.log2+(m.log2+1022)=1074 by omega]
  ·rename_i h
   rw[Nat.mul_assoc,←Nat.pow_add,show m.log2-52+1074=m.log2+1022 by omega]
 by_cases h:eT m<9007199254740992
 ·refine⟨eT m,-1074+((m.log2+1022:Nat):Int),?_,by omega,?_,by omega⟩
  ·rw[show(m.log2+1022)*4503599627370496+eT m=(m.log2+1022+1)*4503599627370496+(eT m-4503599627370496) by omega,qU s _ _ (by omega) (by omega),show 4503599627370496+(eT m-4503599627370496)=eT m by omega]
  ·rw[show(-1074+((m.log2+1022:Nat):Int)+1074).toNat=m.log2+1022 by omega];exact hr
 ·refine⟨4503599627370496,-1074+((m.log2+1023:Nat):Int),?_,by omega,?_,by omega⟩
  ·rw[show(m.log2+1022)*4503599627370496+eT m=(m.log2+1023+1)*4503599627370496+0 by omega,qU s _ _ (by omega) (by omega)]
  ·rw[show(-1074+((m.log2+1023:Nat):Int)+1074).toNat=m.log2+1022+1 by omega,←hr,show eT m=9007199254740992 by omega]
   generalize m.log2+1022=q
   rw[Nat.pow_succ];omega
def pH (m:Nat):Prop:=m.log2≤52∨m%2^(m.log2-52)=0
instance (m:Nat):Decidable (pH m):=inferInstanceAs (Decidable (_∨_))
theorem s8 {m:Nat} (h:pH m):nh m=m:=by
 unfold nh
 split
 ·rfl
 ·rename_i hl
  have hm:m%2^(m.log2-52)=0:=h.resolve_left hl
  unfold eT
  rw[if_neg hl,hm]
  have p:=Nat.two_pow_pos (m.log2-52)
  rw[show(decide (2^(m.log2-52)<2*0)||((2^(m.log2-52)==2*0)&&(m/2^(m.log2-52)%2==1)))=false by
   rw[decide_eq_false (by omega),show(2^(m.log2-52)==2*0)=false by simp];rfl]
  have:=Nat.div_add_mod m (2^(m.log2-52))
  rw[Nat.mul_comm,hm] at this
  exact this
theorem Vd {m:Nat} (h:¬pH m):nh m≠m:=by
 unfold pH at h
 intro e
 unfold nh at e
 rw[if_neg (fun c=>h (.inl c))] at e
 exact h (.inr ((congrArg (·% 2^(m.log2-52)) e.symm).trans (Nat.mul_mod_left _ _)))
theorem EF {a b:Int} {K:Nat} (h:0<K):a*(K:Int)≤b*(K:Int)↔a≤b:=by
 constructor
 ·intro h'
  refine Int.not_lt.mp fun c=>?_
  have:=Int.mul_lt_mul_of_pos_right c (show(0:Int)<(K:Int) by omega)
  omega
 ·exact fun h'=>Int.mul_le_mul_of_nonneg_right h' (by omega)
theorem Qw {a b:Int} {K:Nat} (h:0<K):a*(K:Int)<b*(K:Int)↔a<b:=by
 rw[←Int.not_le,←Int.not_le,EF h]
theorem gQ (s:Bool) (Q:Nat):signed s Q 0=if s then -(Q:Int) else(Q:Int):=by
 unfold signed;rw[Nat.shiftLeft_zero]
theorem wF {s:Bool} {M Q:Nat} {p:Int} (h:M*2^(p+1074).toNat=Q*2^1074):val s M p=signed s Q 0*((2^1074:Nat):Int):=by
 unfold val
 rw[h,gQ]
 cases s
 ·simp only[Bool.false_eq_true,if_false,Int.natCast_mul]
 ·simp only[if_true,Int.natCast_mul,Int.neg_mul]
theorem B5:double.read 4890909195324358656=.number false 4503599627370496 11:=by rfl
theorem zj:double.read 14114281232179134464=.number true 4503599627370496 11:=by rfl
theorem N4:4503599627370496*2^((11:Int)+1074).toNat=9223372036854775808*2^1074:=by
 rw[show((11:Int)+1074).toNat=11+1074 by rfl,Nat.pow_add,←Nat.mul_assoc]
theorem Tw:0<2^1074:=Nat.two_pow_pos _
structure Wh (b:Nat) (s:Bool) (Q:Nat):Prop where
 h:∃M p,double.read b=.number s M p∧ -1074≤p∧M*2^(p+1074).toNat=Q*2^1074
theorem Wh.ge {b:Nat} {s:Bool} {Q:Nat} (h:Wh b s Q):yJ b 4890909195324358656=decide (9223372036854775808≤signed s Q 0):=by
 obtain⟨M,p,hr,hp,hv⟩:=h.h
 unfold yJ
 show(Datum.order (double.read b) (double.read 4890909195324358656)==some .gt||Datum.order (double.read b) (double.read 4890909195324358656)==some .eq)=_
 rw[hr,B5,qz hp (by decide),Yp,wF hv,wF N4]
 exact decide_eq_decide.mpr (EF Tw)
theorem Wh.lt {b:Nat} {s:Bool} {Q:Nat} (h:Wh b s Q):BL b 14114281232179134464=decide (signed s Q 0 < -9223372036854775808):=by
 obtain⟨M,p,hr,hp,hv⟩:=h.h
 unfold BL
 show(Datum.order (double.read b) (double.read 14114281232179134464)==some .lt)=_
 rw[hr,zj,qz hp (by decide),Yo,wF hv,wF N4]
 exact decide_eq_decide.mpr (Qw Tw)
theorem Wh.int {b:Nat} {s:Bool} {Q:Nat} (h:Wh b s Q):(FloatKind.f64.decode b).toInt .zero=some (signed s Q 0):=by
 obtain⟨M,p,hr,hp,hv⟩:=h.h
 show(double.read b).toInt .zero=_
 rw[hr]
 exact N3 hp hv
theorem Wh.oh {b:Nat} {s:Bool} {Q:Nat} (h:Wh b s Q):Go.Ev.oh b=signed s Q 0:=by
 unfold Go.Ev.oh;rw[h.int]
theorem Wh.BP {b:Nat} {s:Bool} {Q:Nat} (h:Wh b s Q) (h1: -9223372036854775808≤signed s Q 0) (h2:signed s Q 0<9223372036854775808):Go.Ev.BP b .i64:=by
 unfold Go.Ev.BP
 rw[h.oh,h.int]
 exact⟨rfl,h1,by show signed s Q 0≤9223372036854775807;omega⟩
theorem EG {m:Nat} (h:m<18446744073709551616):m.log2≤63:=by
 by_cases h0:m=0
 ·subst h0;decide
 ·have:=(Nat.log2_lt h0 (k:=64)).mpr h;omega
theorem Ir (s:Bool) {m:Nat} (h:m<18446744073709551616):Wh (double.nearest s m 0) s (nh m):=by
 by_cases h0:m=0
 ·subst h0
  refine⟨0,-1074,?_,by decide,?_⟩
  ·cases s<;>rfl
  ·rw[show nh 0=0 from rfl,Nat.zero_mul,Nat.zero_mul]
 ·obtain⟨M,p,h1,h2,h3,_⟩:=Qv s h0 (EG h)
  exact⟨M,p,h1,h2,h3⟩
theorem Yr {m:Nat} (h:m≤9223372036854775808):nh m≤9223372036854775808:=by
 by_cases hf:pH m
 ·rw[s8 hf];exact h
 ·have hl:¬m.log2≤52:=fun c=>hf (.inl c)
  have h0:m≠0:=by intro c;subst c;exact hl (by decide)
  have h62:m.log2≤62:=by
   have:m≠9223372036854775808:=fun c=>hf (by subst c;decide)
   have:=(Nat.log2_lt h0 (k:=63)).mpr (by omega)
   omega
  unfold nh
  rw[if_neg hl]
  have hk:=(oV h0).2.1
  have h1:eT m*2^(m.log2-52)≤9007199254740992*2^10:=Nat.mul_le_mul hk (Nat.pow_le_pow_right (by decide) (by omega))
  omega
def TI (b:Nat) (x:Int):Prop:=∃s Q,Wh b s Q∧x=signed s Q 0∧ -9223372036854775808≤x∧x<9223372036854775808
theorem Wh.N5 {b:Nat} {s t:Bool} {Q R:Nat} (h:Wh b s Q) (h':Wh b t R):signed s Q 0=signed t R 0:=by
 have:=h.int.symm.trans h'.int
 exact Option.some.inj this
theorem TI.N5 {b:Nat} {x y:Int} (h:TI b x) (h':TI b y):x=y:=by
 obtain⟨s,Q,h1,rfl,_⟩:=h
 obtain⟨t,R,h2,rfl,_⟩:=h'
 exact h1.N5 h2
theorem EH {b:Nat} {s:Bool} {M:Nat} {p:Int} (h:double.read b=.number s M p): -1074≤p∧M<9007199254740992:=by
 unfold Format.read at h
 rw[show double.signWeight=9223372036854775808 from rfl,show double.binade=4503599627370496 from rfl,show double.infRung=9218868437227405312 from rfl,show double.leastPlace= -1074 from rfl] at h
 dsimp only at h
 split at h
 ·cases h;omega
 ·split at h
  ·cases h;omega
  ·split at h<;>cases h
theorem Is {M d:Nat} (h:M<9007199254740992):pH (M*2^d):=by
 by_cases h0:M=0
 ·subst h0;rw[Nat.zero_mul];exact .inl (by decide)
 ·by_cases hl:(M*2^d).log2≤52
  ·exact .inl hl
  ·refine .inr ?_
   have h1:(M*2^d).log2<53+d:=by
    refine(Nat.log2_lt (by have:=Nat.two_pow_pos d;exact Nat.mul_ne_zero h0 (by omega))).mpr ?_
    rw[Nat.pow_add]
    exact Nat.mul_lt_mul_of_pos_right h (Nat.two_pow_pos _)
   have e:d=(d-((M*2^d).log2-52))+((M*2^d).log2-52):=by omega
   generalize (M*2^d).log2-52=q at *
   rw[e,Nat.pow_add,←Nat.mul_assoc]
   exact Nat.mul_mod_left _ _
theorem val_inj {s:Bool} {M Q:Nat} {p:Int} (h:val s M p=signed s Q 0*((2^1074:Nat):Int)):M*2^(p+1074).toNat=Q*2^1074:=by
 unfold val at h
 rw[gQ] at h
 generalize 2^1074=K at *
 cases s
 ·simp only[Bool.false_eq_true,if_false,←Int.natCast_mul] at h
  exact Int.ofNat.inj h
 ·simp only[if_true,Int.neg_mul,←Int.natCast_mul] at h
  exact Int.ofNat.inj (Int.neg_inj.mp h)
theorem EI {b:Nat} {s:Bool} {M:Nat} {p:Int} (hr:double.read b=.number s M p) (h1:BL b 14114281232179134464=false) (h2:yJ b 4890909195324358656=false):
  Wh (iV b) s ((M <<< p.toNat)/2^(-p).toNat)∧((FloatKind.f64.format.order b (iV b) != some .eq)=true↔¬M*2^(p+1074).toNat=((M <<< p.toNat)/2^(-p).toNat)*2^1074):=by
 obtain⟨hp,hM⟩:=EH hr
 have hq:(M <<< p.toNat)/2^(-p).toNat<18446744073709551616∧pH ((M <<< p.toNat)/2^(-p).toNat):=by
  by_cases h0:0≤p
  ·have e:M*2^(p+1074).toNat=(M*2^p.toNat)*2^1074:=by rw[show(p+1074).toNat=p.toNat+1074 by omega,Nat.pow_add,←Nat.mul_assoc]
   have hw:Wh b s (M*2^p.toNat):=⟨M,p,hr,hp,e⟩
   rw[hw.lt] at h1
   rw[hw.ge] at h2
   have h1:=of_decide_eq_false h1
   have h2:=of_decide_eq_false h2
   rw[gQ] at h1 h2
   rw[show(-p).toNat=0 by omega,Nat.pow_zero,Nat.div_one,Nat.shiftLeft_eq]
   refine⟨?_,Is hM⟩
   cases s
   ·simp only[Bool.false_eq_true,if_false] at h1 h2;omega
   ·simp only[if_true] at h1 h2;omega
  ·rw[show p.toNat=0 by omega,Nat.shiftLeft_zero]
   have hd:M/2^(-p).toNat≤M:=Nat.div_le_self _ _
   refine⟨by omega,?_⟩
   have:=Is (M:=M/2^(-p).toNat) (d:=0) (by omega)
   rwa [Nat.pow_zero,Nat.mul_one] at this
 have hw:Wh (iV b) s ((M <<< p.toNat)/2^(-p).toNat):=by
  have e:iV b=double.nearest s ((M <<< p.toNat)/2^(-p).toNat) 0:=by
   show double.write ((double.read b).integral .zero)=_
   rw[hr]
   show double.nearest s (Toward.zero.cut s (M <<< p.toNat) (-p).toNat) 0=_
   rw[EE]
  rw[e]
  have:=Ir s hq.1
  rwa [s8 hq.2] at this
 refine⟨hw,?_⟩
 obtain⟨N,q,gu,j8,ov⟩:=hw.h
 show(Datum.order (double.read b) (double.read (iV b)) != some .eq)=true↔_
 rw[hr,gu,qz hp j8,bne,cmp_eq,wF ov]
 constructor
 ·intro h c
  rw[wF c] at h
  simp at h
 ·intro h
  rw[decide_eq_false fun c=>h (val_inj c)];rfl
theorem N6 (s:Bool) {Q R:Nat} (h:Q≤R): -(R:Int)≤signed s Q 0∧signed s Q 0≤R:=by
 rw[gQ];cases s<;>simp<;>omega
end Go.Ev.Flt
end
