/- Proved: parts of the way: BC1, BCD, BCE, Flt, BEq12, BC2, BC3, BEq13, BEq14. -/
import Derived.Test.YtbajncpfmemdgaaGreatDoorEvQ15
import Derived.Test.YtbajncpfmemdgaaGreatDoorEvQ09
set_option linter.unusedVariables false
set_option linter.unusedSimpArgs false
section
namespace Go.Proofs.YtbajncpfmemdgaaGreatDoor
open Go Go.Ev Go.IntWalk
theorem F253:bS Tryz.prog 253 Tryz.f253:=.of (by kernel_rfl) (by kernel_rfl)
theorem F251:bS Tryz.prog 251 Tryz.f251:=.of (by kernel_rfl) (by kernel_rfl)
theorem F252:bS Tryz.prog 252 Tryz.f252:=.of (by kernel_rfl) (by kernel_rfl)
theorem F265:bS Tryz.prog 265 Tryz.f265:=.of (by kernel_rfl) (by kernel_rfl)
theorem F266:bS Tryz.prog 266 Tryz.f266:=.of (by kernel_rfl) (by kernel_rfl)
theorem F268:bS Tryz.prog 268 Tryz.f268:=.of (by kernel_rfl) (by kernel_rfl)
theorem F269:bS Tryz.prog 269 Tryz.f269:=.of (by kernel_rfl) (by kernel_rfl)
def L0 (x:Int):Nat→List SV
 | 0=>[.val (.int .u64 x),.box [.int .u8 (0:Int),.int .u8 (0:Int),.int .u8 (0:Int),.int .u8 (0:Int),.int .u8 (0:Int),.int .u8 (0:Int),.int .u8 (0:Int),.int .u8 (0:Int)],.val (.int .i64 (0:Int))]
 | 1=>[.val (.int .u64 x),.box [.int .u8 (cM x 56),.int .u8 (0:Int),.int .u8 (0:Int),.int .u8 (0:Int),.int .u8 (0:Int),.int .u8 (0:Int),.int .u8 (0:Int),.int .u8 (0:Int)],.val (.int .i64 (1:Int))]
 | 2=>[.val (.int .u64 x),.box [.int .u8 (cM x 56),.int .u8 (cM x 48),.int .u8 (0:Int),.int .u8 (0:Int),.int .u8 (0:Int),.int .u8 (0:Int),.int .u8 (0:Int),.int .u8 (0:Int)],.val (.int .i64 (2:Int))]
 | 3=>[.val (.int .u64 x),.box [.int .u8 (cM x 56),.int .u8 (cM x 48),.int .u8 (cM x 40),.int .u8 (0:Int),.int .u8 (0:Int),.int .u8 (0:Int),.int .u8 (0:Int),.int .u8 (0:Int)],.val (.int .i64 (3:Int))]
 | 4=>[.val (.int .u64 x),.box [.int .u8 (cM x 56),.int .u8 (cM x 48),.int .u8 (cM x 40),.int .u8 (cM x 32),.int .u8 (0:Int),.int .u8 (0:Int),.int .u8 (0:Int),.int .u8 (0:Int)],.val (.int .i64 (4:Int))]
 | 5=>[.val (.int .u64 x),.box [.int .u8 (cM x 56),.int .u8 (cM x 48),.int .u8 (cM x 40),.int .u8 (cM x 32),.int .u8 (cM x 24),.int .u8 (0:Int),.int .u8 (0:Int),.int .u8 (0:Int)],.val (.int .i64 (5:Int))]
 | 6=>[.val (.int .u64 x),.box [.int .u8 (cM x 56),.int .u8 (cM x 48),.int .u8 (cM x 40),.int .u8 (cM x 32),.int .u8 (cM x 24),.int .u8 (cM x 16),.int .u8 (0:Int),.int .u8 (0:Int)],.val (.int .i64 (6:Int))]
 | 7=>[.val (.int .u64 x),.box [.int .u8 (cM x 56),.int .u8 (cM x 48),.int .u8 (cM x 40),.int .u8 (cM x 32),.int .u8 (cM x 24),.int .u8 (cM x 16),.int .u8 (cM x 8),.int .u8 (0:Int)],.val (.int .i64 (7:Int))]
 | 8=>[.val (.int .u64 x),.box [.int .u8 (cM x 56),.int .u8 (cM x 48),.int .u8 (cM x 40),.int .u8 (cM x 32),.int .u8 (cM x 24),.int .u8 (cM x 16),.int .u8 (cM x 8),.int .u8 (cM x 0)],.val (.int .i64 (8:Int))]
 | _=>[]
section
variable [Env] [aE] {vs:List V} {σ:St} {k:ah}
omit [Env] [aE] in
theorem ZI {a b:Int} (h:(1≤a∧a≤5)∧(1≤b∧b≤5)∧¬(a=1∧b=4)∧¬(a=4∧b=1)∧¬(a=3∧b=5)∧¬(a=5∧b=3)):V.bool true=.bool (lK a b):=by unfold lK;rw[decide_eq_true h]
omit [Env] [aE] in
theorem ZJ {a b:Int} (h:¬((1≤a∧a≤5)∧(1≤b∧b≤5)∧¬(a=1∧b=4)∧¬(a=4∧b=1)∧¬(a=3∧b=5)∧¬(a=5∧b=3))):V.bool false=.bool (lK a b):=by unfold lK;rw[decide_eq_false h]
theorem Pv (h:LR vs σ k):ag Tryz.prog 253 vs k σ:=by
 unfold LR at h
 split at h
 ·rename_i a b
  refine ag.eJ (aA (Go.Ev.Clean.int _ _) (aA (Go.Ev.Clean.int _ _) bm)) (.bool _) (F253.flat (live:=EH) (call:=Hv) (n₀:=0) (σ:=Go.Ev.start) (fun h=>EG h) rfl (by kernel_rfl) ?_) h
  rw[Zw];unfold J5
  repeat' first
   | exact ZI (by omega)
   | exact ZJ (by omega)
   | refine⟨rfl,av (fun _=>?_) (fun _=>?_)⟩
 ·exact h.elim
theorem EM:∀ {f:FuncId} {vs:List V} {σ:St} {k:ah},Hw f vs σ k→ag Tryz.prog f vs k σ:=fun h=>aR Pv EG h
theorem Pw (h:LS vs σ k):ag Tryz.prog 251 vs k σ:=by
 unfold LS at h
 split at h
 ·rename_i e
  refine(ag.AO (Q:=fun u=>u=.func (.func 265) [] [.aK [.int .i64 e] 0]) (aw (Go.Ev.Clean.int _ _) cw) (F251.flat (live:=EI) (call:=Hw) (n₀:=0) (σ:=Go.Ev.start) (fun h=>EM h) rfl (by kernel_rfl) ?_)).mono fun v τ ⟨h1,h2⟩=>by subst h1;subst h2;exact h
  rw[Zx]
  exact⟨_,.func .nil (.cons (.BW (n:=1) (cs:=[.int .i64 e]) (by rfl) (.cons (.int _ _) .nil)) .nil),rfl⟩
 ·exact h.elim
theorem EN:∀ {f:FuncId} {vs:List V} {σ:St} {k:ah},Hz f vs σ k→ag Tryz.prog f vs k σ:=fun h=>aR Pw EM h
theorem Px (h:LU vs σ k):ag Tryz.prog 252 vs k σ:=by
 unfold LU at h
 split at h
 ·rename_i a b c s
  refine(ag.AO (Q:=fun u=>u=.func (.func 266) [] [.aK [.int .i64 a,.int .i64 b,.int .u64 c,.str s] 0]) (aw (ay.aG ⟨a,b,c,s⟩) cw) (F252.flat (live:=EJ) (call:=Hz) (n₀:=0) (σ:=Go.Ev.start) (fun h=>EN h) rfl (by kernel_rfl) ?_)).mono fun v τ ⟨h1,h2⟩=>by subst h1;subst h2;exact h
  rw[Zy]
  exact⟨_,.func .nil (.cons (.BW (n:=4) (cs:=[.int .i64 a,.int .i64 b,.int .u64 c,.str s]) (by rfl) (.cons (.int _ _) (.cons (.int _ _) (.cons (.int _ _) (.cons (.str _) .nil))))) .nil),rfl⟩
 ·exact h.elim
theorem EO:∀ {f:FuncId} {vs:List V} {σ:St} {k:ah},HA f vs σ k→ag Tryz.prog f vs k σ:=fun h=>aR Px EN h
theorem Py (h:LV vs σ k):ag Tryz.prog 265 vs k σ:=by
 unfold LV at h
 split at h
 ·rename_i e
  refine ag.eJ (aA (Go.Ev.Clean.aK (aw (Go.Ev.Clean.int _ _) cw)) bm) (.tuple (bU (.agg (bU (.int _ _) (bU (.int _ _) (bU (.int _ _) (bU (.str _) ig))))) (bU (.int _ _) ig))) (F265.flat (live:=EK) (call:=HA) (n₀:=0) (σ:=Go.Ev.start) (fun h=>EO h) rfl (by kernel_rfl) ?_) h
  rw[Zz]
 ·exact h.elim
theorem EP:∀ {f:FuncId} {vs:List V} {σ:St} {k:ah},HB f vs σ k→ag Tryz.prog f vs k σ:=fun h=>aR Py EO h
theorem Pz (h:LW vs σ k):ag Tryz.prog 266 vs k σ:=by
 unfold LW at h
 split at h
 ·rename_i a b c s
  refine ag.eJ (aA (Go.Ev.Clean.aK (ay.clean ⟨a,b,c,s⟩)) bm) (.tuple (bU (.agg (bU (.int _ _) (bU (.int _ _) (bU (.int _ _) (bU (.str _) ig))))) (bU (.int _ _) ig))) (F266.flat (live:=EL) (call:=HB) (n₀:=0) (σ:=Go.Ev.start) (fun h=>EP h) rfl (by kernel_rfl) ?_) h
  rw[ZA]
 ·exact h.elim
theorem ER:∀ {f:FuncId} {vs:List V} {σ:St} {k:ah},mg f vs σ k→ag Tryz.prog f vs k σ:=fun h=>aR Pz EP h
def ZK (x:Int):Nat→List SV→Prop
 | 0,ss=>∃i:Nat,i≤8∧ss=L0 x i
 | _,_=>False
omit [aE] in
theorem HD (x:Int):∀i,∀s∈L0 x i,s.clean:=by
 intro i
 unfold L0
 split<;>first
  | exact bW
  | exact aF (ax (aw (Go.Ev.Clean.int _ _) (aw (Go.Ev.Clean.int _ _) (aw (Go.Ev.Clean.int _ _) (aw (Go.Ev.Clean.int _ _) (aw (Go.Ev.Clean.int _ _) (aw (Go.Ev.Clean.int _ _) (aw (Go.Ev.Clean.int _ _) (aw (Go.Ev.Clean.int _ _) cw)))))))) (aF bW))
theorem PA (h:LX vs σ k):ag Tryz.prog 268 vs k σ:=by
 unfold LX at h
 split at h
 ·rename_i x
  refine ag.eJ (aA (Go.Ev.Clean.int _ _) bm) (.str _) (F268.cG (live:=ik) (call:=mg) (n₀:=0) (σ:=Go.Ev.start) (fun h=>ER h) rfl 1 (by kernel_rfl) Nat.lt_wfRel.wf (fun _ ss=>8-cF ss) (ZK x) ?_ ?_ ?_) h
  ·intro k ss hI
   cases k with
   | zero=>obtain⟨i,_,rfl⟩:=hI;exact HD x i
   | succ k=>exact hI.elim
  ·rw[ZC]
   exact⟨0,by omega,rfl⟩
  ·intro k hk ss hI
   obtain rfl:k=0:=by omega
   obtain⟨i,hi,rfl⟩:=hI
   match i,hi with
   | 0,_=>exact(Sg _ _ x fun j=>cM x (56-8*j)).mpr ⟨rfl,by decide,⟨1,by decide,rfl⟩,(by show(8-1:Nat)<8-0;decide)⟩
   | 1,_=>exact(Sh _ _ x fun j=>cM x (56-8*j)).mpr ⟨rfl,by decide,⟨2,by decide,rfl⟩,(by show(8-2:Nat)<8-1;decide)⟩
   | 2,_=>exact(Si _ _ x fun j=>cM x (56-8*j)).mpr ⟨rfl,by decide,⟨3,by decide,rfl⟩,(by show(8-3:Nat)<8-2;decide)⟩
   | 3,_=>exact(Sj _ _ x fun j=>cM x (56-8*j)).mpr ⟨rfl,by decide,⟨4,by decide,rfl⟩,(by show(8-4:Nat)<8-3;decide)⟩
   | 4,_=>exact(Sk _ _ x fun j=>cM x (56-8*j)).mpr ⟨rfl,by decide,⟨5,by decide,rfl⟩,(by show(8-5:Nat)<8-4;decide)⟩
   | 5,_=>exact(Sl _ _ x fun j=>cM x (56-8*j)).mpr ⟨rfl,by decide,⟨6,by decide,rfl⟩,(by show(8-6:Nat)<8-5;decide)⟩
   | 6,_=>exact(Sm _ _ x fun j=>cM x (56-8*j)).mpr ⟨rfl,by decide,⟨7,by decide,rfl⟩,(by show(8-7:Nat)<8-6;decide)⟩
   | 7,_=>exact(Sn _ _ x fun j=>cM x (56-8*j)).mpr ⟨rfl,by decide,⟨8,by decide,rfl⟩,(by show(8-8:Nat)<8-7;decide)⟩
   | 8,_=>exact(Sp _ _ x fun j=>cM x (56-8*j)).mpr ⟨rfl,rfl⟩
 ·exact h.elim
theorem ES:∀ {f:FuncId} {vs:List V} {σ:St} {k:ah},y6 f vs σ k→ag Tryz.prog f vs k σ:=fun h=>aR PA ER h
end
end Go.Proofs.YtbajncpfmemdgaaGreatDoor
end
section
namespace Go.Proofs.YtbajncpfmemdgaaGreatDoor
open Go Go.Ev Go.IntWalk
theorem F271:bS Tryz.prog 271 Tryz.f271:=.of (by kernel_rfl) (by kernel_rfl)
theorem Ad {x:Int} (h0:0≤x) (h1:x<18446744073709551616):IntKind.u64.wrap x=x:=by rw[wrap_u64];exact Int.emod_eq_of_lt h0 h1
theorem Xu {x:Int} (h0:0≤x) (h1:x<256):IntKind.u8.wrap x=x:=by
 unfold IntKind.wrap
 show(if (false&&_)=true then _ else x%256)=_
 exact Int.emod_eq_of_lt h0 h1
theorem c48 {m:Nat} (h:m<10):UInt8.ofNat (IntKind.u8.wrap (IntKind.u64.wrap ((48:Int)+(m:Int)))).toNat=byteOf ((48+m:Nat):Int):=by
 rw[Ad (by omega) (by omega),Xu (by omega) (by omega),show(48:Int)+(m:Int)=((48+m:Nat):Int) by omega];rfl
theorem VV (m:Nat):((m:Int)).tmod (10:Int)=((m%10:Nat):Int):=by rw[Int.tmod_eq_emod_of_nonneg (by omega)];omega
theorem Oz {m:Nat} (h:m<18446744073709551616):IntKind.u64.wrap (((m:Int)).tdiv (10:Int))=((m/10:Nat):Int):=by
 rw[Int.tdiv_eq_ediv_of_nonneg (by omega),Ad (by omega) (by omega)];omega
theorem wJ:∀(f:Nat) {m:Nat},m<10→fR f m=[byteOf ((48+m:Nat):Int)]
 | 0,_,_=>rfl
 | _+1,_,h=>by rw[fR,if_pos h]
theorem Ae:∀(f g:Nat) {m:Nat},m<10^(f+1)→m<10^(g+1)→fR f m=fR g m
 | 0,g,m,h,_=>by rw[wJ g (by omega)];rfl
 | f+1,0,m,_,h=>by rw[wJ (f+1) (by omega)];rfl
 | f+1,g+1,m,h1,h2=>by
  unfold fR
  split
  ·rfl
  ·rw[Nat.pow_succ] at h1 h2
   rw[Ae f g (Nat.div_lt_of_lt_mul (by omega)) (Nat.div_lt_of_lt_mul (by omega))]
theorem L1 {m:Nat} (h:10≤m) (hm:m<1000000000000000000000):fR 20 m=fR 20 (m/10)++[byteOf ((48+m%10:Nat):Int)]:=by
 rw[show fR 20 m=fR 19 (m/10)++[byteOf ((48+m%10:Nat):Int)] by rw[fR,if_neg (by omega)],Ae 19 20 (by show m/10<100000000000000000000;omega) (by show m/10<1000000000000000000000;omega)]
theorem PB {m:Nat} (h:m<10):fR 20 m=[byteOf ((48+m:Nat):Int)]:=wJ 20 h
noncomputable def dv (t:List UInt8):Nat→Int
 | 0=>0
 | i+1=>dv t i*10+(aI t i-48)
theorem ET (t u:List UInt8):∀i,i≤t.length→dv (t++u) i=dv t i
 | 0,_=>rfl
 | i+1,h=>by unfold dv;rw[ET t u i (by omega),rZ (by omega)]
structure pE (m:Nat) (t:List UInt8):Prop where
 len:0<t.length
 small:∀k,0<k→m<10^k→t.length≤k
 OA:∀i,i<t.length→48≤aI t i∧aI t i≤57
 val:dv t t.length=m
theorem uh {x:Nat} (h:x<10):aI [byteOf ((48+x:Nat):Int)] 0=((48+x:Nat):Int):=by
 rw[iz (by simp)];exact ud (by omega) (by omega)
theorem xU {m:Nat} (h:m<10):pE m [byteOf ((48+m:Nat):Int)] where
 len:=by simp
 small:=fun k hk _=>hk
 OA:=fun i hi=>by
  obtain rfl:i=0:=by simpa using hi
  rw[uh h];omega
 val:=by
  show(0*10+(aI [byteOf ((48+m:Nat):Int)] 0-48):Int)=m
  rw[uh h];omega
theorem EU:∀(f m:Nat),m<10^(f+1)→pE m (fR f m)
 | 0,m,h=>xU (by omega)
 | f+1,m,h=>by
  unfold fR
  split
  ·rename_i h;exact xU h
  ·rename_i pe
   rw[Nat.pow_succ] at h
   have ih:=EU f (m/10) (Nat.div_lt_of_lt_mul (by omega))
   have hl:(fR f (m/10)++[byteOf ((48+m%10:Nat):Int)]).length=(fR f (m/10)).length+1:=by simp
   have hb:aI (fR f (m/10)++[byteOf ((48+m%10:Nat):Int)]) (fR f (m/10)).length=((48+m%10:Nat):Int):=by
    rw[vU (Nat.le_refl _) (by simp),Nat.sub_self,uh (by omega)]
   refine⟨by omega,fun k hk hm=>?_,fun i hi=>?_,?_⟩
   ·match k,hk,hm with
    | 1,_,hm=>omega
    | k+2,_,hm=>
     rw[Nat.pow_succ] at hm
     have:=ih.small (k+1) (by omega) (Nat.div_lt_of_lt_mul (by omega))
     omega
   ·by_cases he:i=(fR f (m/10)).length
    ·rw[he,hb];omega
    ·rw[rZ (by omega)];exact ih.OA i (by omega)
   ·rw[hl,dv,ET _ _ _ (Nat.le_refl _),ih.val,hb];omega
structure VW (n:Int) (s:List UInt8):Prop where
 neg:n<0→∃t,s=byteOf 45::t∧pE n.natAbs t
 pos:¬n<0→pE n.natAbs s
theorem y9 {n:Int} (h:fg n):VW n (ij n):=by
 have hd:=EU 20 n.natAbs (by have:=h.1;have:=h.2;show n.natAbs<1000000000000000000000;omega)
 exact⟨fun h0=>⟨_,by unfold ij;rw[if_pos h0];rfl,hd⟩,fun h0=>by unfold ij;rw[if_neg h0];exact hd⟩
theorem xV (c:UInt8) (t:List UInt8):aI (c::t) 0=(c.toNat:Int):=by rw[iz (by simp)];rfl
theorem pE.head {m:Nat} {t:List UInt8} (h:pE m t):aI t 0≠45:=by have:=h.OA 0 h.len;omega
theorem dash (t:List UInt8):aI (byteOf 45::t) 0=45:=by rw[xV];exact ud (by decide) (by decide)
theorem L2 {n m:Int} (hn:fg n) (hm:fg m) (h:ij n=ij m):n=m:=by
 have dn:=y9 hn
 have dm:=y9 hm
 rw[h] at dn
 by_cases h0:n<0
 ·obtain⟨t,e1,d1⟩:=dn.neg h0
  by_cases h1:m<0
  ·obtain⟨u,e2,d2⟩:=dm.neg h1
   rw[e1] at e2
   cases e2
   have:=d1.val.symm.trans d2.val
   omega
  ·have:=(dm.pos h1).head
   rw[e1,dash] at this
   exact(this rfl).elim
 ·by_cases h1:m<0
  ·obtain⟨u,e2,d2⟩:=dm.neg h1
   have:=(dn.pos h0).head
   rw[e2,dash] at this
   exact(this rfl).elim
  ·have:=(dn.pos h0).val.symm.trans (dm.pos h1).val
   omega
theorem PC {s:List UInt8} {n:Int} (hn:fg n) (h:ij n=s):lL s=n∧jY s=0:=by
 have hp:y5 s:=⟨n,hn,h⟩
 constructor
 ·unfold lL
  rw[dif_pos hp]
  exact L2 (Classical.choose_spec hp).1 hn ((Classical.choose_spec hp).2.trans h.symm)
 ·unfold jY;rw[if_pos hp]
theorem Ce {s:List UInt8} (h:¬y5 s):lL s=0∧jY s=7:=by
 constructor
 ·unfold lL;rw[dif_neg h]
 ·unfold jY;rw[if_neg h]
theorem HE {s:List UInt8} {n e:Int} (h:lL s=n∧jY s=e):V.tuple [.int .i64 n,.int .i64 e]=.tuple [.int .i64 (lL s),.int .i64 (jY s)]:=by rw[h.1,h.2]
structure oM (n:Int) (i M:Nat) (c:Nat→Int):Prop where
 small:M<10^(i-1)
 first:i=20→M=n.natAbs
 rest:i<20→fR 20 n.natAbs=(if M=0 then [] else fR 20 M)++lc c i
theorem Ss (c:Nat→Int) (i:Nat) (x:Int) (hi:i<20):lc (put c i x) i=UInt8.ofNat x.toNat::lc c (i+1):=by
 unfold lc
 rw[List.drop_eq_getElem_cons (by simp;omega)]
 simp only[List.map_cons,List.getElem_range]
 congr 1
 ·unfold put;rw[if_pos rfl]
 ·refine List.map_congr_left fun j hj=>?_
  unfold put
  rw[if_neg]
  intro e
  obtain⟨q,hq,e2⟩:=List.mem_iff_getElem.mp hj
  simp at e2
  omega
theorem oM.step {n:Int} {i M:Nat} {c:Nat→Int} (h:oM n i M c) (h0:1≤i) (h1:i≤20) (hM:i=20∨M≠0) (hb:M≤9223372036854775808):
  2≤i∧oM n (i-1) (M/10) (put c (i-1) (IntKind.u8.wrap (IntKind.u64.wrap ((48:Int)+(((M:Nat):Int)).tmod (10:Int))))):=by
 have hi:2≤i:=by
  rcases hM with e | e
  ·omega
  ·refine Classical.byContradiction fun c=>?_
   obtain rfl:i=1:=by omega
   have:=h.small
   omega
 refine⟨hi,⟨?_,fun e=>by omega,fun _=>?_⟩⟩
 ·have:=h.small
  rw[show i-1=i-1-1+1 by omega,Nat.pow_succ] at this
  exact Nat.div_lt_of_lt_mul (by omega)
 ·rw[Ss _ _ _ (by omega),show i-1+1=i by omega,VV,c48 (by omega)]
  have hd:fR 20 M=(if M/10=0 then [] else fR 20 (M/10))++[byteOf ((48+M%10:Nat):Int)]:=by
   by_cases pe:M<10
   ·rw[PB pe,if_pos (by omega),Nat.mod_eq_of_lt pe];rfl
   ·rw[if_neg (by omega),L1 (by omega) (by omega)]
  by_cases Xv:i=20
  ·subst Xv
   rw[←h.first rfl,hd,show lc c 20=[] from rfl]
  ·have hr:=h.rest (by omega)
   have hM0:M≠0:=hM.resolve_left Xv
   rw[if_neg hM0,hd,List.append_assoc] at hr
   exact hr
theorem oM.last {n:Int} {i M:Nat} {c:Nat→Int} (h:oM n i M c) (h1:i<20) (h0:M=0):fR 20 n.natAbs=lc c i:=by
 have:=h.rest h1
 rw[if_pos h0] at this
 exact this
def ZL (n:Int):Nat→List SV→Prop
 | 0,ss=>∃(i M:Nat) (c:Nat→Int),(1≤i∧i≤20∧M≤9223372036854775808)∧ss=y7 n ((M:Nat):Int) c i∧oM n i M c
 | _,_=>False
section
variable [Env] [aE] {vs:List V} {σ:St} {k:ah}
omit [aE] in
theorem HF (n m:Int) (c:Nat→Int) (i:Nat):∀s∈y7 n m c i,s.clean:=by
 unfold y7
 exact aF (aF (ax (fun u hu=>by
  obtain⟨j,_,rfl⟩:=List.mem_map.1 hu
  exact Go.Ev.Clean.int _ _) (aF bW)))
omit [Env] [aE] in
theorem J6 {c:Nat→Int} {n:Int} {i:Nat} (h:ij n=(if n<0 then [UInt8.ofNat (45:Int).toNat] else [])++lc c i):(n<0→ij n=UInt8.ofNat (45:Int).toNat::lc c i)∧(¬n<0→ij n=lc c i):=
 ⟨fun h3=>by rw[h,if_pos h3];rfl,fun h3=>by rw[h,if_neg h3];rfl⟩
theorem PD (h:LY vs σ k):ag Tryz.prog 269 vs k σ:=by
 unfold LY at h
 split at h
 ·rename_i n
  obtain⟨hn,h⟩:=h
  have hN:n.natAbs≤9223372036854775808:=by have:=hn.1;have:=hn.2;omega
  refine ag.eJ (aA (Go.Ev.Clean.int _ _) bm) (.str _) (F269.cG (live:=vf) (call:=y6) (n₀:=0) (σ:=Go.Ev.start) (fun h=>ES h) rfl 1 (by kernel_rfl) Nat.lt_wfRel.wf (fun _ ss=>cF ss) (ZL n) ?_ ?_ ?_) h
  ·intro k ss hI
   cases k with
   | zero=>obtain⟨i,M,c,_,rfl,_⟩:=hI;exact HF _ _ _ _
   | succ k=>exact hI.elim
  ·rw[ZE]
   have hI:oM n 20 n.natAbs (fun _=>0):=⟨by show n.natAbs<10000000000000000000;omega,fun _=>rfl,fun h=>by omega⟩
   refine⟨rfl,av (fun h2=>⟨20,n.natAbs,_,⟨by decide,by decide,hN⟩,?_,hI⟩) fun h2=>⟨20,n.natAbs,_,⟨by decide,by decide,hN⟩,?_,hI⟩⟩
   ·rw[wrap_u64,wrap_u64,show(0-n%18446744073709551616)%18446744073709551616=((n.natAbs:Nat):Int) by have:=hn.1;omega];rfl
   ·rw[wrap_u64,show n%18446744073709551616=((n.natAbs:Nat):Int) by have:=hn.2;omega];rfl
  ·intro k hk ss hI
   obtain rfl:k=0:=by omega
   obtain⟨i,M,c,⟨h0,h1,hM⟩,rfl,hI⟩:=hI
   have fin:i<20→M=0→ij n=(if n<0 then [UInt8.ofNat (45:Int).toNat] else [])++lc c i:=fun h2 h3=>by unfold ij;rw[hI.last h2 h3];rfl
   by_cases Xw:i=20
   ·subst Xw
    have hs:=hI.step h0 h1 (.inl rfl) hM
    exact(Pu _ _ n ((M:Nat):Int) c).mpr ⟨rfl,⟨rfl,by decide⟩,⟨rfl,by decide⟩,⟨19,M/10,_,⟨by omega,by omega,by omega⟩,by rw[Oz (by omega)],hs.2⟩,(by show(19:Nat)<20;decide)⟩
   ·rw[ZF _ _ _ _ _ i h0 (by omega)]
    refine⟨rfl,rfl,av (fun h2=>?_) fun h2=>⟨rfl,av (fun h3=>?_) fun h3=>?_⟩⟩
    ·have hs:=hI.step h0 h1 (.inr (by omega)) hM
     exact⟨⟨rfl,by decide⟩,⟨rfl,by decide⟩,⟨i-1,M/10,_,⟨by omega,by omega,by omega⟩,by rw[Oz (by omega)],hs.2⟩,(by show i-1<i;omega)⟩
    ·rw[(J6 (fin (by omega) (by omega))).1 h3]
    ·rw[(J6 (fin (by omega) (by omega))).2 h3]
 ·exact h.elim
theorem EV:∀ {f:FuncId} {vs:List V} {σ:St} {k:ah},Cd f vs σ k→ag Tryz.prog f vs k σ:=fun h=>aR PD ES h
end
end Go.Proofs.YtbajncpfmemdgaaGreatDoor
end
section
namespace Go.Proofs.YtbajncpfmemdgaaGreatDoor
open Go Go.Ev Go.IntWalk
theorem xW (x:Int):IntKind.i64.wrap x=Int.bmod x 18446744073709551616:=by
 unfold IntKind.wrap Int.bmod
 show(if (true&&_)=true then x%18446744073709551616-18446744073709551616 else x%18446744073709551616)=if x%18446744073709551616<(18446744073709551616+1)/2 then x%18446744073709551616 else x%18446744073709551616-18446744073709551616
 simp only[Bool.true_and,decide_eq_true_eq]
 show(if (9223372036854775808:Int)≤x%18446744073709551616 then _ else _)=_
 split<;>split<;>first | rfl | omega
theorem Af (x:Int):fg (IntKind.i64.wrap x):=by
 rw[xW]
 have h1:=Int.le_bmod (x:=x) (m:=18446744073709551616) (by decide)
 have h2:=Int.bmod_lt (x:=x) (m:=18446744073709551616) (by decide)
 constructor<;>omega
theorem L3 {x:Int} (h:fg x):IntKind.i64.wrap x=x:=by
 have:=h.1;have:=h.2
 exact i64_in x (by omega)
def pF (s t:List UInt8):Prop:=(t=s∧∀u,s≠byteOf 45::u)∨s=byteOf 45::t
theorem pF.num {s t:List UInt8} (h:pF s t) (hp:y5 s):∃n,fg n∧ij n=s∧pE n.natAbs t∧(n<0↔s=byteOf 45::t):=by
 obtain⟨n,hn,he⟩:=hp
 have hd:=y9 hn
 rw[he] at hd
 refine⟨n,hn,he,?_⟩
 by_cases h0:n<0
 ·obtain⟨u,e,d⟩:=hd.neg h0
  rcases h with ⟨_,h⟩ | h
  ·exact(h u e).elim
  ·rw[h] at e;cases e;exact⟨d,fun _=>h,fun _=>h0⟩
 ·have d:=hd.pos h0
  rcases h with ⟨rfl,h⟩ | h
  ·exact⟨d,fun h=>(h0 h).elim,fun e=>(h _ e).elim⟩
  ·have:=d.head;rw[h,dash] at this;exact(this rfl).elim
theorem pF.len {s t:List UInt8} (h:pF s t):(t.length<s.length↔s=byteOf 45::t)∧t.length≤s.length∧s.length≤t.length+1:=by
 rcases h with ⟨rfl,h⟩ | rfl
 ·exact⟨⟨fun c=>by omega,fun e=>(h _ e).elim⟩,by omega,by omega⟩
 ·simp
theorem VX {n:Int} (hn:fg n) {t:List UInt8} (h:pE n.natAbs t):t.length≤19:=h.small 19 (by decide) (by have:=hn.1;have:=hn.2;show n.natAbs<10000000000000000000;omega)
theorem pF.done {s t:List UInt8} (h:pF s t) {x:Int} (hx:x=IntKind.i64.wrap (if s=byteOf 45::t then -dv t t.length else dv t t.length)):y5 s↔ij x=s:=by
 constructor
 ·intro hp
  obtain⟨n,hn,he,hd,hs⟩:=h.num hp
  rw[hd.val] at hx
  have:x=n:=by
   rw[hx]
   refine Eq.trans (congrArg IntKind.i64.wrap ?_) (L3 hn)
   by_cases c:s=byteOf 45::t
   ·rw[if_pos c];have:=hs.mpr c;omega
   ·rw[if_neg c];have:¬n<0:=fun c2=>c (hs.mp c2);omega
  rw[this];exact he
 ·intro he
  exact⟨x,by rw[hx];exact Af _,he⟩
theorem pF.ends {s t:List UInt8} (h:pF s t) {x:Int} (hx:x=IntKind.i64.wrap (if s=byteOf 45::t then -dv t t.length else dv t t.length)) {A:V→Prop} (hA:A (.tuple [.int .i64 (lL s),.int .i64 (jY s)])):
  fg x∧ae (decide (ij x≠s)) (A (.tuple [.int .i64 0,.int .i64 7])) (A (.tuple [.int .i64 x,.int .i64 0])):=by
 have Xx:fg x:=by rw[hx];exact Af _
 refine⟨Xx,av (fun h1=>?_) fun h1=>?_⟩
 ·rw[HE (Ce fun hp=>h1 ((h.done hx).mp hp))];exact hA
 ·rw[HE (PC Xx (Classical.not_not.mp h1))];exact hA
def Su (s:List UInt8):Nat→List SV→Prop
 | 0,ss=>∃(t:List UInt8) (i:Nat),(pF s t∧t.length<20∧i≤t.length∧∀j,j<i→48≤aI t j∧aI t j≤57)∧
   ss=[.val (.str s),.val (.str t),.val (.int .u64 (dv t i%18446744073709551616)),.row (len t) (du t) 1,.val (.int .i64 ((t.length:Nat):Int)),.val (.int .i64 ((i:Nat):Int))]
 | _,_=>False
def ZM:Nat→List SV→Nat:=fun n ss=>n-cF ss
theorem Sv {s:List UInt8} (h0:s≠[]) (h:aI s 0=45):s=byteOf 45::s.drop 1:=by
 cases s with
 | nil=>exact(h0 rfl).elim
 | cons c t=>
  rw[xV] at h
  rw[show c=byteOf 45 from UInt8.toNat_inj.mp (by show c.toNat=45;omega)];rfl
theorem L4 {s:List UInt8} (h:aI s 0≠45):∀u,s≠byteOf 45::u:=fun u e=>h (by rw[e,dash])
theorem hL:(len:List UInt8→Nat)=List.length:=funext fun _=>aZ _
theorem J7 [Env] {n:Nat} {t:List UInt8} {l:List SV} (hl:∀u∈l,u.clean):∀u∈SV.row n (du t) 1::l,u.clean:=ax (fun i _ u hu=>by
 rw[show(du t i).cells=[.int .u8 (aI t i)] from rfl] at hu
 obtain rfl:=List.mem_singleton.mp hu
 exact Go.Ev.Clean.int _ _) hl
section
variable [Env] [aE] {vs:List V} {σ:St} {k:ah}
theorem PE (h:LZ vs σ k):ag Tryz.prog 271 vs k σ:=by
 unfold LZ at h
 split at h
 ·rename_i s
  refine ag.eJ (aA (Go.Ev.Clean.str _) bm) (.tuple (bU (.int _ _) (bU (.int _ _) ig))) (F271.cG (live:=y8) (call:=Cd) (n₀:=0) (σ:=Go.Ev.start) (fun h=>EV h) rfl 1 (by kernel_rfl) Nat.lt_wfRel.wf (fun _ ss=>ZM 20 ss) (Su s) ?_ ?_ ?_) h
  ·intro k ss hI
   cases k with
   | zero=>obtain⟨t,i,_,rfl⟩:=hI;exact oL (oL (aF (J7 (aF (aF bW)))))
   | succ k=>exact hI.elim
  ·rw[ZG];unfold Sr
   rw[hL]
   have go:∀ {t:List UInt8},pF s t→t.length<20→Su s 0 [.val (.str s),.val (.str t),.val (.int .u64 (0:Int)),.row t.length (du t) 1,.val (.int .i64 ((t.length:Nat):Int)),.val (.int .i64 (0:Int))]:=fun {t} h1 h2=>
    ⟨t,0,⟨h1,h2,Nat.zero_le _,fun j hj=>absurd hj (Nat.not_lt_zero _)⟩,by rw[hL];rfl⟩
   have no:∀ {t:List UInt8},pF s t→¬t.length<20→V.tuple [.int .i64 (0:Int),.int .i64 (7:Int)]=.tuple [.int .i64 (lL s),.int .i64 (jY s)]:=fun h1 h2=>HE (Ce fun hp=>by
    obtain⟨n,hn,_,hd,_⟩:=h1.num hp
    have:=VX hn hd;omega)
   refine av (fun h0=>?_) fun h0=>?_
   ·have hl:0<s.length:=List.length_pos_iff.mpr h0
    refine⟨⟨by omega,by omega⟩,rfl,av (fun h1=>?_) fun h1=>?_⟩
    ·have fG:aI s 0=45:=h1
     have hs:pF s (s.drop 1):=.inr (Sv h0 fG)
     have ht:di (1:Int).toNat (dA s ((s.length:Nat):Int).toNat)=s.drop 1:=by
      rw[eu,ek,eL,List.take_length];rfl
     rw[ht]
     refine⟨⟨by omega,by omega,by omega⟩,rfl,av (fun h2=>no hs (by omega)) fun h2=>⟨?_,⟨rfl,rfl⟩,go hs (by omega)⟩⟩
     omega
    ·have hs:pF s s:=.inl ⟨rfl,L4 h1⟩
     exact⟨rfl,av (fun h2=>no hs (by omega)) fun h2=>⟨by omega,⟨rfl,rfl⟩,go hs (by omega)⟩⟩
   ·have h0:s=[]:=Classical.not_not.mp h0
    subst h0
    have hs:pF [] []:=.inl ⟨rfl,fun u e=>by cases e⟩
    exact⟨rfl,av (fun h2=>no hs (by have:((([]:List UInt8).length:Nat):Int)=0:=rfl;omega)) fun h2=>⟨by decide,⟨rfl,rfl⟩,go hs (by decide)⟩⟩
  ·intro k hk ss hI
   obtain rfl:k=0:=by omega
   obtain⟨t,i,⟨hs,hl,hi,hd⟩,rfl⟩:=hI
   rw[ZH]
   rw[hL]
   have hr:=qa t i
   have no:¬(48≤aI t i∧aI t i≤57)→i<t.length→V.tuple [.int .i64 (0:Int),.int .i64 (7:Int)]=.tuple [.int .i64 (lL s),.int .i64 (jY s)]:=fun h1 h2=>HE (Ce fun hp=>by
    obtain⟨n,hn,_,hdg,_⟩:=hs.num hp
    exact h1 (hdg.OA i h2))
   refine⟨rfl,av (fun h1=>?_) fun h1=>?_⟩
   ·have fG:i<t.length:=by omega
    refine⟨⟨by omega,h1⟩,fG,rfl,av (fun h2=>no (fun c=>by rw[eu] at h2;omega) fG) fun h2=>⟨rfl,av (fun h3=>no (fun c=>by rw[eu] at h3;omega) fG) fun h3=>?_⟩⟩
    rw[eu] at h2 h3⊢
    refine⟨⟨rfl,rfl⟩,⟨t,i+1,⟨hs,hl,fG,fun j hj=>?_⟩,?_⟩,?_⟩
    ·by_cases e:j=i
     ·subst e;omega
     ·exact hd j (by omega)
    ·rw[Xu (by omega) (by omega),wrap_u64,wrap_u64,wrap_u64,i64_in ((i:Int)+1) (by omega)]
     congr 5
     ·show _=(dv t i*10+(aI t i-48))%18446744073709551616
      omega
     ·exact(aZ t).symm
    ·show 20-(IntKind.i64.wrap (((i:Nat):Int)+1)).toNat<20-(((i:Nat):Int)).toNat
     rw[i64_in ((i:Int)+1) (by omega)];omega
   ·obtain rfl:i=t.length:=by omega
    refine⟨rfl,av (fun h2=>?_) fun h2=>?_⟩
    ·refine hs.ends (A:=fun v=>v=V.tuple [.int .i64 (lL s),.int .i64 (jY s)]) ?_ rfl
     rw[if_pos (hs.len.1.mp (by omega)),wrap_u64,xW,xW]
     rw[show(0-dv t t.length%18446744073709551616)%18446744073709551616=(-dv t t.length)%18446744073709551616 by omega]
     exact Int.emod_bmod ..
    ·refine hs.ends (A:=fun v=>v=V.tuple [.int .i64 (lL s),.int .i64 (jY s)]) ?_ rfl
     rw[if_neg (fun c=>h2 (by have:=hs.len.1.mpr c;omega)),xW,xW]
     exact Int.emod_bmod ..
 ·exact h.elim
theorem EW:∀ {f:FuncId} {vs:List V} {σ:St} {k:ah},HC f vs σ k→ag Tryz.prog f vs k σ:=fun h=>aR PE EV h
end
end Go.Proofs.YtbajncpfmemdgaaGreatDoor
end
section
set_option exponentiation.threshold 3000
namespace Go.Ev.Flt
open Ieee
def val (s:Bool) (M:Nat) (p:Int):Int:=if s then -((M*2^(p+1074).toNat:Nat):Int) else((M*2^(p+1074).toNat:Nat):Int)
theorem Cf (s:Bool) (M a b:Nat):signed s M (a+b)=signed s M a*((2^b:Nat):Int):=by
 unfold signed
 rw[Nat.shiftLeft_eq,Nat.shiftLeft_eq,Nat.pow_add,←Nat.mul_assoc]
 cases s with
 | true=>rw[if_pos rfl,if_pos rfl,Int.neg_mul,←Int.natCast_mul]
 | false=>rw[if_neg Bool.false_ne_true,if_neg Bool.false_ne_true,←Int.natCast_mul]
theorem xX (s:Bool) (M:Nat) (p:Int) (base:Int) (hb:base≤p) (h: -1074≤base):val s M p=signed s M (p-base).toNat*((2^(base+1074).toNat:Nat):Int):=by
 have e:(p+1074).toNat=(p-base).toNat+(base+1074).toNat:=by omega
 rw[←Cf,←e]
 unfold val signed
 rw[Nat.shiftLeft_eq]
theorem DD (x y:Int) (c:Nat) (hc:0<c):compare x y=compare (x*(c:Int)) (y*(c:Int)):=by
 have gx:(0:Int)<(c:Int):=by omega
 rcases Int.lt_trichotomy x y with h | h | h
 ·have h':=Int.mul_lt_mul_of_pos_right h gx
  simp only[compare,compareOfLessAndEq,if_pos h,if_pos h']
 ·subst h;simp only[compare,compareOfLessAndEq,Int.lt_irrefl,if_false]
 ·have h':=Int.mul_lt_mul_of_pos_right h gx
  simp only[compare,compareOfLessAndEq,if_neg (Int.not_lt.mpr (Int.le_of_lt h)),if_neg (Int.not_lt.mpr (Int.le_of_lt h')),if_neg (Int.ne_of_gt h),if_neg (Int.ne_of_gt h')]
theorem pG {s t:Bool} {M N:Nat} {p q:Int} (hp: -1074≤p) (hq: -1074≤q):Datum.order (.number s M p) (.number t N q)=some (compare (val s M p) (val t N q)):=by
 show some (compare (signed s M (p-min p q).toNat) (signed t N (q-min p q).toNat))=_
 rw[DD _ _ (2^(min p q+1074).toNat) (Nat.two_pow_pos _),←xX s M p (min p q) (by omega) (by omega),←xX t N q (min p q) (by omega) (by omega)]
theorem cmp_eq (x y:Int):(some (compare x y)==some Ordering.eq)=decide (x=y):=by
 by_cases h:x=y
 ·subst h;simp [compare,compareOfLessAndEq]
 ·rw[decide_eq_false h]
  by_cases h':x<y<;>simp [compare,compareOfLessAndEq,h,h']
theorem Sw (x y:Int):(some (compare x y)==some Ordering.lt)=decide (x<y):=by
 by_cases h:x<y
 ·simp [compare,compareOfLessAndEq,h]
 ·rw[decide_eq_false h]
  by_cases h':x=y<;>simp [compare,compareOfLessAndEq,h,h']
theorem Sx (x y:Int):(some (compare x y)==some Ordering.gt||some (compare x y)==some Ordering.eq)=decide (y≤x):=by
 by_cases h:x<y
 ·rw[decide_eq_false (by omega)];simp [compare,compareOfLessAndEq,h]
 ·rw[decide_eq_true (by omega)]
  by_cases h':x=y<;>simp [compare,compareOfLessAndEq,h,h']
theorem Cg (s:Bool) (n d:Nat):Toward.zero.cut s n d=n/2^d:=by
 unfold Toward.cut
 simp only[Bool.toNat_false,Nat.add_zero,Nat.one_shiftLeft]
 by_cases h:d≤n.log2+2
 ·rw[Nat.min_eq_left h]
 ·rw[Nat.min_eq_right (by omega)]
  have hn:n<2^(n.log2+2):=Nat.lt_of_lt_of_le Nat.lt_log2_self (Nat.pow_le_pow_right (by decide) (by omega))
  rw[Nat.div_eq_of_lt hn,Nat.div_eq_of_lt (Nat.lt_of_lt_of_le hn (Nat.pow_le_pow_right (by decide) (by omega)))]
theorem Sy {M Q:Nat} {p:Int} (hp: -1074≤p) (h:M*2^(p+1074).toNat=Q*2^1074):(M <<< p.toNat)/2^(-p).toNat=Q:=by
 rw[Nat.shiftLeft_eq]
 by_cases h0:0≤p
 ·have e:(p+1074).toNat=p.toNat+1074:=by omega
  rw[e,Nat.pow_add,←Nat.mul_assoc] at h
  have h':=Nat.eq_of_mul_eq_mul_right (Nat.two_pow_pos 1074) h
  rw[h',show(-p).toNat=0 by omega,Nat.pow_zero,Nat.div_one]
 ·have e:1074=(-p).toNat+(p+1074).toNat:=by omega
  rw[show Q*2^1074=Q*2^((-p).toNat+(p+1074).toNat) by rw[←e],Nat.pow_add,←Nat.mul_assoc] at h
  have h':=Nat.eq_of_mul_eq_mul_right (Nat.two_pow_pos _) h
  rw[show p.toNat=0 by omega,Nat.pow_zero,Nat.mul_one,h',Nat.mul_div_cancel _ (Nat.two_pow_pos _)]
theorem J8 {s:Bool} {M Q:Nat} {p:Int} (hp: -1074≤p) (h:M*2^(p+1074).toNat=Q*2^1074):(Datum.number s M p).toInt .zero=some (signed s Q 0):=by
 show some (signed s (Toward.zero.cut s (M <<< p.toNat) (-p).toNat) 0)=_
 rw[Cg,Sy hp h]
theorem L5 (s:Bool) (r:Nat):double.word s r=(if s then 9223372036854775808 else 0)+r:=by
 unfold Format.word
 cases s
 ·show r=0+r;omega
 ·rfl
theorem vV (s:Bool) (e f:Nat) (he:e≤2045) (hf:f<4503599627370496):double.read (double.word s ((e+1)*4503599627370496+f))=.number s (4503599627370496+f) (-1074+(e:Int)):=by
 rw[L5]
 unfold Format.read
 rw[show double.signWeight=9223372036854775808 from rfl,show double.binade=4503599627370496 from rfl,show double.infRung=9218868437227405312 from rfl,show double.leastPlace= -1074 from rfl]
 have e1:((if s then 9223372036854775808 else 0)+((e+1)*4503599627370496+f))%9223372036854775808=(e+1)*4503599627370496+f:=by cases s<;>simp<;>omega
 have e2:(((if s then 9223372036854775808 else 0)+((e+1)*4503599627370496+f))/9223372036854775808%2==1)=s:=by
  cases s
  ·have:(0+((e+1)*4503599627370496+f))/9223372036854775808%2=0:=by omega
   simp only[Bool.false_eq_true,if_false,this];rfl
  ·have:(9223372036854775808+((e+1)*4503599627370496+f))/9223372036854775808%2=1:=by omega
   simp only[if_true,this];rfl
 have e3:((e+1)*4503599627370496+f)%4503599627370496=f:=by omega
 have e4:((e+1)*4503599627370496+f)/4503599627370496-1=e:=by omega
 dsimp only
 rw[e1,e2,e3,e4,if_neg (by omega),if_pos (by omega)]
def fK (m:Nat):Nat:=if m.log2≤52 then m*2^(52-m.log2) else
 m/2^(m.log2-52)+(decide (2^(m.log2-52)<2*(m%2^(m.log2-52)))||((2^(m.log2-52)==2*(m%2^(m.log2-52)))&&(m/2^(m.log2-52)%2==1))).toNat
theorem sc {m:Nat} (h0:m≠0):4503599627370496≤fK m∧fK m≤9007199254740992∧(m.log2≤52→fK m<9007199254740992):=by
 have h1:2^m.log2≤m:=Nat.log2_self_le h0
 have h2:m<2^(m.log2+1):=Nat.lt_log2_self
 unfold fK
 split
 ·rename_i h
  have a:2^m.log2*2^(52-m.log2)=4503599627370496:=by rw[←Nat.pow_add,show m.log2+(52-m.log2)=52 by omega]
  have b:2^(m.log2+1)*2^(52-m.log2)=9007199254740992:=by rw[←Nat.pow_add,show m.log2+1+(52-m.log2)=53 by omega]
  have c:=Nat.mul_le_mul_right (2^(52-m.log2)) h1
  have d:=Nat.mul_lt_mul_of_pos_right h2 (Nat.two_pow_pos (52-m.log2))
  omega
 ·rename_i h
  have a:2^m.log2=4503599627370496*2^(m.log2-52):=by rw[show(4503599627370496:Nat)=2^52 from rfl,←Nat.pow_add,show 52+(m.log2-52)=m.log2 by omega]
  have b:2^(m.log2+1)=9007199254740992*2^(m.log2-52):=by rw[show(9007199254740992:Nat)=2^53 from rfl,←Nat.pow_add,show 53+(m.log2-52)=m.log2+1 by omega]
  rw[a] at h1
  rw[b] at h2
  have c:4503599627370496≤m/2^(m.log2-52):=(Nat.le_div_iff_mul_le (Nat.two_pow_pos _)).mpr h1
  have d:m/2^(m.log2-52)<9007199254740992:=(Nat.div_lt_iff_lt_mul (Nat.two_pow_pos _)).mpr h2
  have e:=Bool.toNat_le (decide (2^(m.log2-52)<2*(m%2^(m.log2-52)))||((2^(m.log2-52)==2*(m%2^(m.log2-52)))&&(m/2^(m.log2-52)%2==1)))
  exact⟨by omega,by omega,fun h=>by omega⟩
theorem J9 (s:Bool) {m:Nat} (h0:m≠0) (h1:m.log2≤63):double.nearest s m 0=double.word s ((m.log2+1022)*4503599627370496+fK m):=by
 have hk:=sc h0
 unfold Format.nearest
 rw[if_neg h0]
 rw[show double.leastPlace= -1074 from rfl,show double.binade=4503599627370496 from rfl,show double.infRung=9218868437227405312 from rfl,show(double.fractionBits:Int)=52 from rfl]
 have hl:max ((0:Int)+(m.log2:Int)-52) (-1074)=(m.log2:Int)-52:=by omega
 dsimp only
 rw[hl]
 have e1:((m.log2:Int)-52 - -1074).toNat=m.log2+1022:=by omega
 rw[e1]
 have e2:Toward.even.cut s (m <<< ((0:Int)-((m.log2:Int)-52)).toNat) ((m.log2:Int)-52-0).toNat=fK m:=by
  unfold fK Toward.cut
  dsimp only
  by_cases h:m.log2≤52
  ·rw[if_pos h,show((0:Int)-((m.log2:Int)-52)).toNat=52-m.log2 by omega,show((m.log2:Int)-52-0).toNat=0 by omega,Nat.shiftLeft_eq,Nat.zero_min]
   simp only[Nat.shiftLeft_zero,Nat.div_one,Nat.mod_one,Nat.mul_zero]
   rfl
  ·rw[if_neg h,show((0:Int)-((m.log2:Int)-52)).toNat=0 by omega,show((m.log2:Int)-52-0).toNat=m.log2-52 by omega,Nat.shiftLeft_zero]
   rw[show min (m.log2-52) (m.log2+2)=m.log2-52 by omega,Nat.one_shiftLeft]
 rw[e2,Nat.min_eq_left (by omega)]
def mh (m:Nat):Nat:=if m.log2≤52 then m else fK m*2^(m.log2-52)
theorem L6 (s:Bool) {m:Nat} (h0:m≠0) (h1:m.log2≤63):∃M p,double.read (double.nearest s m 0)=.number s M p∧ -1074≤p∧M*2^(p+1074).toNat=mh m*2^1074∧M≠0:=by
 obtain⟨k1,k2,k3⟩:=sc h0
 rw[J9 s h0 h1]
 have hr:fK m*2^(m.log2+1022)=mh m*2^1074:=by
  unfold mh
  split
  ·rename_i h
   unfold fK
   rw[if_pos h,Nat.mul_assoc,←Nat.pow_add,show 52-m.log2+(m.log2+1022)=1074 by omega]
  ·rename_i h
   rw[Nat.mul_assoc,←Nat.pow_add,show m.log2-52+1074=m.log2+1022 by omega]
 by_cases h:fK m<9007199254740992
 ·refine⟨fK m,-1074+((m.log2+1022:Nat):Int),?_,by omega,?_,by omega⟩
  ·rw[show(m.log2+1022)*4503599627370496+fK m=(m.log2+1022+1)*4503599627370496+(fK m-4503599627370496) by omega,vV s _ _ (by omega) (by omega),show 4503599627370496+(fK m-4503599627370496)=fK m by omega]
  ·rw[show(-1074+((m.log2+1022:Nat):Int)+1074).toNat=m.log2+1022 by omega];exact hr
 ·refine⟨4503599627370496,-1074+((m.log2+1023:Nat):Int),?_,by omega,?_,by omega⟩
  ·rw[show(m.log2+1022)*4503599627370496+fK m=(m.log2+1023+1)*4503599627370496+0 by omega,vV s _ _ (by omega) (by omega)]
  ·rw[show(-1074+((m.log2+1023:Nat):Int)+1074).toNat=m.log2+1022+1 by omega,←hr,show fK m=9007199254740992 by omega]
   generalize m.log2+1022=q
   rw[Nat.pow_succ];omega
def oN (m:Nat):Prop:=m.log2≤52∨m%2^(m.log2-52)=0
instance (m:Nat):Decidable (oN m):=inferInstanceAs (Decidable (_∨_))
theorem sd {m:Nat} (h:oN m):mh m=m:=by
 unfold mh
 split
 ·rfl
 ·rename_i hl
  have hm:m%2^(m.log2-52)=0:=h.resolve_left hl
  unfold fK
  rw[if_neg hl,hm]
  have p:=Nat.two_pow_pos (m.log2-52)
  rw[show(decide (2^(m.log2-52)<2*0)||((2^(m.log2-52)==2*0)&&(m/2^(m.log2-52)%2==1)))=false by
   rw[decide_eq_false (by omega),show(2^(m.log2-52)==2*0)=false by simp];rfl]
  have:=Nat.div_add_mod m (2^(m.log2-52))
  rw[Nat.mul_comm,hm] at this
  exact this
theorem PF {m:Nat} (h:¬oN m):mh m≠m:=by
 unfold oN at h
 intro e
 unfold mh at e
 rw[if_neg (fun c=>h (.inl c))] at e
 exact h (.inr ((congrArg (·% 2^(m.log2-52)) e.symm).trans (Nat.mul_mod_left _ _)))
theorem Ch {a b:Int} {K:Nat} (h:0<K):a*(K:Int)≤b*(K:Int)↔a≤b:=by
 constructor
 ·intro h'
  refine Int.not_lt.mp fun c=>?_
  have:=Int.mul_lt_mul_of_pos_right c (show(0:Int)<(K:Int) by omega)
  omega
 ·exact fun h'=>Int.mul_le_mul_of_nonneg_right h' (by omega)
theorem L7 {a b:Int} {K:Nat} (h:0<K):a*(K:Int)<b*(K:Int)↔a<b:=by
 rw[←Int.not_le,←Int.not_le,Ch h]
theorem n5 (s:Bool) (Q:Nat):signed s Q 0=if s then -(Q:Int) else(Q:Int):=by
 unfold signed;rw[Nat.shiftLeft_zero]
theorem vg {s:Bool} {M Q:Nat} {p:Int} (h:M*2^(p+1074).toNat=Q*2^1074):val s M p=signed s Q 0*((2^1074:Nat):Int):=by
 unfold val
 rw[h,n5]
 cases s
 ·simp only[Bool.false_eq_true,if_false,Int.natCast_mul]
 ·simp only[if_true,Int.natCast_mul,Int.neg_mul]
theorem Ag:double.read 4890909195324358656=.number false 4503599627370496 11:=by rfl
theorem xY:double.read 14114281232179134464=.number true 4503599627370496 11:=by rfl
theorem Ka:4503599627370496*2^((11:Int)+1074).toNat=9223372036854775808*2^1074:=by
 rw[show((11:Int)+1074).toNat=11+1074 by rfl,Nat.pow_add,←Nat.mul_assoc]
theorem OB:0<2^1074:=Nat.two_pow_pos _
structure Wh (b:Nat) (s:Bool) (Q:Nat):Prop where
 h:∃M p,double.read b=.number s M p∧ -1074≤p∧M*2^(p+1074).toNat=Q*2^1074
theorem Wh.ge {b:Nat} {s:Bool} {Q:Nat} (h:Wh b s Q):xy b 4890909195324358656=decide (9223372036854775808≤signed s Q 0):=by
 obtain⟨M,p,hr,hp,hv⟩:=h.h
 unfold xy
 show(Datum.order (double.read b) (double.read 4890909195324358656)==some .gt||Datum.order (double.read b) (double.read 4890909195324358656)==some .eq)=_
 rw[hr,Ag,pG hp (by decide),Sx,vg hv,vg Ka]
 exact decide_eq_decide.mpr (Ch OB)
theorem Wh.lt {b:Nat} {s:Bool} {Q:Nat} (h:Wh b s Q):zS b 14114281232179134464=decide (signed s Q 0 < -9223372036854775808):=by
 obtain⟨M,p,hr,hp,hv⟩:=h.h
 unfold zS
 show(Datum.order (double.read b) (double.read 14114281232179134464)==some .lt)=_
 rw[hr,xY,pG hp (by decide),Sw,vg hv,vg Ka]
 exact decide_eq_decide.mpr (L7 OB)
theorem Wh.int {b:Nat} {s:Bool} {Q:Nat} (h:Wh b s Q):(FloatKind.f64.decode b).toInt .zero=some (signed s Q 0):=by
 obtain⟨M,p,hr,hp,hv⟩:=h.h
 show(double.read b).toInt .zero=_
 rw[hr]
 exact J8 hp hv
theorem Wh.nq {b:Nat} {s:Bool} {Q:Nat} (h:Wh b s Q):Go.Ev.nq b=signed s Q 0:=by
 unfold Go.Ev.nq;rw[h.int]
theorem Wh.zW {b:Nat} {s:Bool} {Q:Nat} (h:Wh b s Q) (h1: -9223372036854775808≤signed s Q 0) (h2:signed s Q 0<9223372036854775808):Go.Ev.zW b .i64:=by
 unfold Go.Ev.zW
 rw[h.nq,h.int]
 exact⟨rfl,h1,by show signed s Q 0≤9223372036854775807;omega⟩
theorem Sz {m:Nat} (h:m<18446744073709551616):m.log2≤63:=by
 by_cases h0:m=0
 ·subst h0;decide
 ·have:=(Nat.log2_lt h0 (k:=64)).mpr h;omega
theorem EX (s:Bool) {m:Nat} (h:m<18446744073709551616):Wh (double.nearest s m 0) s (mh m):=by
 by_cases h0:m=0
 ·subst h0
  refine⟨0,-1074,?_,by decide,?_⟩
  ·cases s<;>rfl
  ·rw[show mh 0=0 from rfl,Nat.zero_mul,Nat.zero_mul]
 ·obtain⟨M,p,h1,h2,h3,_⟩:=L6 s h0 (Sz h)
  exact⟨M,p,h1,h2,h3⟩
theorem SA {m:Nat} (h:m≤9223372036854775808):mh m≤9223372036854775808:=by
 by_cases hf:oN m
 ·rw[sd hf];exact h
 ·have hl:¬m.log2≤52:=fun c=>hf (.inl c)
  have h0:m≠0:=by intro c;subst c;exact hl (by decide)
  have h62:m.log2≤62:=by
   have:m≠9223372036854775808:=fun c=>hf (by subst c;decide)
   have:=(Nat.log2_lt h0 (k:=63)).mpr (by omega)
   omega
  unfold mh
  rw[if_neg hl]
  have hk:=(sc h0).2.1
  have h1:fK m*2^(m.log2-52)≤9007199254740992*2^10:=Nat.mul_le_mul hk (Nat.pow_le_pow_right (by decide) (by omega))
  omega
def TI (b:Nat) (x:Int):Prop:=∃s Q,Wh b s Q∧x=signed s Q 0∧ -9223372036854775808≤x∧x<9223372036854775808
theorem Wh.SB {b:Nat} {s t:Bool} {Q R:Nat} (h:Wh b s Q) (h':Wh b t R):signed s Q 0=signed t R 0:=by
 have:=h.int.symm.trans h'.int
 exact Option.some.inj this
theorem TI.SB {b:Nat} {x y:Int} (h:TI b x) (h':TI b y):x=y:=by
 obtain⟨s,Q,h1,rfl,_⟩:=h
 obtain⟨t,R,h2,rfl,_⟩:=h'
 exact h1.SB h2
theorem Ci {b:Nat} {s:Bool} {M:Nat} {p:Int} (h:double.read b=.number s M p): -1074≤p∧M<9007199254740992:=by
 unfold Format.read at h
 rw[show double.signWeight=9223372036854775808 from rfl,show double.binade=4503599627370496 from rfl,show double.infRung=9218868437227405312 from rfl,show double.leastPlace= -1074 from rfl] at h
 dsimp only at h
 split at h
 ·cases h;omega
 ·split at h
  ·cases h;omega
  ·split at h<;>cases h
theorem EY {M d:Nat} (h:M<9007199254740992):oN (M*2^d):=by
 by_cases h0:M=0
 ·subst h0;rw[Nat.zero_mul];exact .inl (by decide)
 ·by_cases hl:(M*2^d).log2≤52
  ·exact .inl hl
  ·refine .inr ?_
   have h1:(M*2^d).log2<53+d:=by
    refine(Nat.log2_lt (by have:=Nat.two_pow_pos d;exact Nat.mul_ne_zero h0 (by omega))).mpr ?_
    rw[Nat.pow_add]
    exact Nat.mul_lt_mul_of_pos_right h (Nat.two_pow_pos _)
   have e:d=(d-((M*2^d).log2-52))+((M*2^d).log2-52):=by omega
   generalize (M*2^d).log2-52=q at *
   rw[e,Nat.pow_add,←Nat.mul_assoc]
   exact Nat.mul_mod_left _ _
theorem val_inj {s:Bool} {M Q:Nat} {p:Int} (h:val s M p=signed s Q 0*((2^1074:Nat):Int)):M*2^(p+1074).toNat=Q*2^1074:=by
 unfold val at h
 rw[n5] at h
 generalize 2^1074=K at *
 cases s
 ·simp only[Bool.false_eq_true,if_false,←Int.natCast_mul] at h
  exact Int.ofNat.inj h
 ·simp only[if_true,Int.neg_mul,←Int.natCast_mul] at h
  exact Int.ofNat.inj (Int.neg_inj.mp h)
theorem Cj {b:Nat} {s:Bool} {M:Nat} {p:Int} (hr:double.read b=.number s M p) (h1:zS b 14114281232179134464=false) (h2:xy b 4890909195324358656=false):
  Wh (hQ b) s ((M <<< p.toNat)/2^(-p).toNat)∧((FloatKind.f64.format.order b (hQ b) != some .eq)=true↔¬M*2^(p+1074).toNat=((M <<< p.toNat)/2^(-p).toNat)*2^1074):=by
 obtain⟨hp,hM⟩:=Ci hr
 have hq:(M <<< p.toNat)/2^(-p).toNat<18446744073709551616∧oN ((M <<< p.toNat)/2^(-p).toNat):=by
  by_cases h0:0≤p
  ·have e:M*2^(p+1074).toNat=(M*2^p.toNat)*2^1074:=by rw[show(p+1074).toNat=p.toNat+1074 by omega,Nat.pow_add,←Nat.mul_assoc]
   have hw:Wh b s (M*2^p.toNat):=⟨M,p,hr,hp,e⟩
   rw[hw.lt] at h1
   rw[hw.ge] at h2
   have h1:=of_decide_eq_false h1
   have h2:=of_decide_eq_false h2
   rw[n5] at h1 h2
   rw[show(-p).toNat=0 by omega,Nat.pow_zero,Nat.div_one,Nat.shiftLeft_eq]
   refine⟨?_,EY hM⟩
   cases s
   ·simp only[Bool.false_eq_true,if_false] at h1 h2;omega
   ·simp only[if_true] at h1 h2;omega
  ·rw[show p.toNat=0 by omega,Nat.shiftLeft_zero]
   have hd:M/2^(-p).toNat≤M:=Nat.div_le_self _ _
   refine⟨by omega,?_⟩
   have:=EY (M:=M/2^(-p).toNat) (d:=0) (by omega)
   rwa [Nat.pow_zero,Nat.mul_one] at this
 have hw:Wh (hQ b) s ((M <<< p.toNat)/2^(-p).toNat):=by
  have e:hQ b=double.nearest s ((M <<< p.toNat)/2^(-p).toNat) 0:=by
   show double.write ((double.read b).integral .zero)=_
   rw[hr]
   show double.nearest s (Toward.zero.cut s (M <<< p.toNat) (-p).toNat) 0=_
   rw[Cg]
  rw[e]
  have:=EX s hq.1
  rwa [sd hq.2] at this
 refine⟨hw,?_⟩
 obtain⟨N,q,gr,jv,lV⟩:=hw.h
 show(Datum.order (double.read b) (double.read (hQ b)) != some .eq)=true↔_
 rw[hr,gr,pG hp jv,bne,cmp_eq,vg lV]
 constructor
 ·intro h c
  rw[vg c] at h
  simp at h
 ·intro h
  rw[decide_eq_false fun c=>h (val_inj c)];rfl
theorem Kb (s:Bool) {Q R:Nat} (h:Q≤R): -(R:Int)≤signed s Q 0∧signed s Q 0≤R:=by
 rw[n5];cases s<;>simp<;>omega
end Go.Ev.Flt
end
section
namespace Go.Proofs.YtbajncpfmemdgaaGreatDoor
open Go Go.Ev
def Ck (n:Int):Int:=if Flt.oN n.natAbs then((FloatKind.nearest .f64 n:Nat):Int) else 0
def se (n:Int):Bool:=decide (Flt.oN n.natAbs)
noncomputable def lM (s:List UInt8):Nat→Int
 | 0=>0
 | n+1=>lM s n*256%18446744073709551616+aI s n
def xZ (b:Int):Prop:=0≤b∧b<18446744073709551616
noncomputable def lN (b:Int):Int:=@dite _ (∃x,Flt.TI b.toNat x) (Classical.propDecidable _) (fun h=>Classical.choose h) fun _=>0
noncomputable def vW (b:Int):Bool:=@decide (∃x,Flt.TI b.toNat x) (Classical.propDecidable _)
def EZ:Nat→List Nat:=(fun _=>[])
theorem ZN [Env] (A:Nat→List SV→Prop) (Q:V→Prop) (b:Nat):WE Tryz.prog 277 Tryz.f277 HC 0 EZ A (fun v _=>Q v) [.dJ .f64 b] Go.Ev.start=
  (((FloatKind.f64.decode b).isNaN=false∧Q (.dJ .f64 (hQ b)))):=by kernel_rfl
def L8 [Env] (vs:List V) (σ:St) (k:ah):Prop:=
 match vs with
 | [.dJ .f64 b]=>(FloatKind.f64.decode b).isNaN=false∧k (.dJ .f64 (hQ b)) σ
 | _=>False
def HG [Env]:=kS 277 L8 HC
def E0:Nat→List Nat:=(fun _=>[])
theorem ZO [Env] (A:Nat→List SV→Prop) (Q:V→Prop) (n:Int):WE Tryz.prog 267 Tryz.f267 HG 0 E0 A (fun v _=>Q v) [.int .i64 n] Go.Ev.start=
  (ae (xy (FloatKind.nearest .f64 n) (4890909195324358656:Nat)) (Q (.tuple [.int .u64 (0:Int),.bool false])) ((zW (FloatKind.nearest .f64 n) .i64∧((.i64:IntKind)=.i64∧ae (decide ((nq (FloatKind.nearest .f64 n))≠n)) (Q (.tuple [.int .u64 (0:Int),.bool false])) (Q (.tuple [.int .u64 (((FloatKind.nearest .f64 n:Nat):Int)),.bool true])))))):=by kernel_rfl
def L9 [Env] (vs:List V) (σ:St) (k:ah):Prop:=
 match vs with
 | [.int .i64 n]=>fg n∧k (.tuple [.int .u64 (Ck n),.bool (se n)]) σ
 | _=>False
def HH [Env]:=kS 267 L9 HG
def E3:Nat→List Nat:=(fun _=>[])
theorem ZP [Env] (A:Nat→List SV→Prop) (Q:V→Prop) (b:Int):WE Tryz.prog 270 Tryz.f270 HH 0 E3 A (fun v _=>Q v) [.int .u64 b] Go.Ev.start=
  (ae (FloatKind.f64.format.order b.toNat b.toNat != some .eq) (Q (.tuple [.int .i64 (0:Int),.bool false])) (ae (zS b.toNat (14114281232179134464:Nat)) (Q (.tuple [.int .i64 (0:Int),.bool false])) (ae (xy b.toNat (4890909195324358656:Nat)) (Q (.tuple [.int .i64 (0:Int),.bool false])) (((FloatKind.f64.decode b.toNat).isNaN=false∧ae (FloatKind.f64.format.order b.toNat (hQ b.toNat) != some .eq) (Q (.tuple [.int .i64 (0:Int),.bool false])) ((zW b.toNat .i64∧Q (.tuple [.int .i64 (nq b.toNat),.bool true])))))))):=by kernel_rfl
def Ma [Env] (vs:List V) (σ:St) (k:ah):Prop:=
 match vs with
 | [.int .u64 b]=>xZ b∧k (.tuple [.int .i64 (lN b),.bool (vW b)]) σ
 | _=>False
def HI [Env]:=kS 270 Ma HH
end Go.Proofs.YtbajncpfmemdgaaGreatDoor
end
section
namespace Go.Proofs.YtbajncpfmemdgaaGreatDoor
open Go Go.Ev Go.IntWalk Go.Ev.Flt
open Ieee (double signed)
theorem F277:bS Tryz.prog 277 Tryz.f277:=.of (by kernel_rfl) (by kernel_rfl)
theorem F267:bS Tryz.prog 267 Tryz.f267:=.of (by kernel_rfl) (by kernel_rfl)
theorem F270:bS Tryz.prog 270 Tryz.f270:=.of (by kernel_rfl) (by kernel_rfl)
theorem ZQ (x k:Nat) (hk:k≤64):IntKind.u64.wrap (((x:Nat):Int)*2^min (((k:Nat):Int)).toNat IntKind.u64.bits)=((x*2^k%18446744073709551616:Nat):Int):=by
 rw[eu,show min k IntKind.u64.bits=k from Nat.min_eq_left hk,wrap_u64,Int.natCast_emod,Int.natCast_mul,Int.natCast_pow];rfl
theorem Xy {x:Nat} (hx:x<18446744073709551616):(BitVec.ofInt IntKind.u64.bits ((x:Nat):Int)).toNat=x:=by
 rw[show IntKind.u64.bits=64 from rfl,BitVec.toNat_ofInt]
 show(((x:Nat):Int)%(18446744073709551616:Nat)).toNat=x
 omega
theorem orU {x y:Nat} (hx:x<18446744073709551616) (hy:y<18446744073709551616):IntKind.u64.wrap (BitVec.ofInt IntKind.u64.bits ((x:Nat):Int)||| BitVec.ofInt IntKind.u64.bits ((y:Nat):Int)).toNat=((x||| y:Nat):Int):=by
 rw[BitVec.toNat_or,Xy hx,Xy hy,wrap_u64]
 have:x||| y<2^64:=Nat.or_lt_two_pow hx hy
 omega
theorem SC {k a b:Nat} (h:b<2^k):(2^k*a)||| b=2^k*a+b:=(Nat.two_pow_add_eq_or_of_lt h a).symm
theorem PG {n:Int} (h:fg n):n.natAbs≤9223372036854775808:=by have:=h.1;have:=h.2;omega
theorem E4 {n:Int}:signed (decide (n<0)) n.natAbs 0=n:=by
 rw[n5]
 by_cases h:n<0
 ·rw[decide_eq_true h,if_pos rfl];omega
 ·rw[decide_eq_false h,if_neg Bool.false_ne_true];omega
theorem PH (n:Int):FloatKind.nearest .f64 n=double.nearest (decide (n<0)) n.natAbs 0:=rfl
theorem dE.dJ [Env] (k:FloatKind) (b:Nat):dE (.dJ k b):=fun _ _ _ h=>by cases h;exact .dJ _ _
theorem Kc {b x:Int} (h:TI b.toNat x):lN b=x∧vW b=true:=by
 have he:∃x,TI b.toNat x:=⟨x,h⟩
 constructor
 ·unfold lN
  rw[dif_pos he]
  exact(Classical.choose_spec he).SB h
 ·unfold vW;exact @decide_eq_true _ (Classical.propDecidable _) he
theorem OC {b:Int} (h:∀x,¬TI b.toNat x):lN b=0∧vW b=false:=by
 have he:¬ ∃x,TI b.toNat x:=fun⟨x,hx⟩=>h x hx
 constructor
 ·unfold lN;rw[dif_neg he]
 ·unfold vW;exact @decide_eq_false _ (Classical.propDecidable _) he
section
variable [Env] [aE] {vs:List V} {σ:St} {k:ah}
theorem PI (h:L8 vs σ k):ag Tryz.prog 277 vs k σ:=by
 unfold L8 at h
 split at h
 ·rename_i b
  refine ag.eJ (aA (Go.Ev.Clean.dJ _ _) bm) (dE.dJ _ _) (F277.flat (live:=EZ) (call:=HC) (n₀:=0) (σ:=Go.Ev.start) (fun h=>EW h) rfl (by kernel_rfl) ?_) h.2
  rw[ZN]
  exact⟨h.1,rfl⟩
 ·exact h.elim
theorem E5:∀ {f:FuncId} {vs:List V} {σ:St} {k:ah},HG f vs σ k→ag Tryz.prog f vs k σ:=fun h=>aR PI EW h
omit [Env] [aE] in
theorem SD {n:Int} (h:¬oN n.natAbs):V.tuple [.int .u64 (0:Int),.bool false]=.tuple [.int .u64 (Ck n),.bool (se n)]:=by
 unfold Ck se;rw[if_neg h,decide_eq_false h]
omit [Env] [aE] in
theorem VY {n:Int} {x:Nat} (h:oN n.natAbs) (hx:FloatKind.nearest .f64 n=x):V.tuple [.int .u64 ((x:Nat):Int),.bool true]=.tuple [.int .u64 (Ck n),.bool (se n)]:=by
 unfold Ck se;rw[if_pos h,decide_eq_true h,hx]
theorem PJ (h:L9 vs σ k):ag Tryz.prog 267 vs k σ:=by
 unfold L9 at h
 split at h
 ·rename_i n
  obtain⟨hn,h⟩:=h
  refine ag.eJ (aA (Go.Ev.Clean.int _ _) bm) (.tuple (bU (.int _ _) (bU (.bool _) ig))) (F267.flat (live:=E0) (call:=HG) (n₀:=0) (σ:=Go.Ev.start) (fun h=>E5 h) rfl (by kernel_rfl) ?_) h
  rw[ZO]
  have hm:=PG hn
  have hw:Wh (FloatKind.nearest .f64 n) (decide (n<0)) (mh n.natAbs):=by rw[PH];exact EX _ (by omega)
  have hr:=SA hm
  rw[hw.ge,hw.nq]
  refine av (fun h1=>SD fun hf=>?_) fun h1=>⟨hw.zW ?_ (by omega),rfl,av (fun h2=>SD fun hf=>?_) fun h2=>VY ?_ rfl⟩
  ·rw[sd hf,E4] at h1;have:=hn.2;omega
  ·have:=(Kb (decide (n<0)) hr).1;omega
  ·rw[sd hf,E4] at h2;exact h2 rfl
  ·refine Classical.byContradiction fun hf=>PF hf ?_
   have h2:signed (decide (n<0)) (mh n.natAbs) 0=n:=Classical.not_not.mp h2
   rw[n5] at h2
   by_cases h0:n<0
   ·rw[decide_eq_true h0,if_pos rfl] at h2;omega
   ·rw[decide_eq_false h0,if_neg Bool.false_ne_true] at h2;omega
 ·exact h.elim
theorem E6:∀ {f:FuncId} {vs:List V} {σ:St} {k:ah},HH f vs σ k→ag Tryz.prog f vs k σ:=fun h=>aR PJ E5 h
end
end Go.Proofs.YtbajncpfmemdgaaGreatDoor
end
section
set_option exponentiation.threshold 3000
namespace Go.Proofs.YtbajncpfmemdgaaGreatDoor
open Go Go.Ev Go.IntWalk Go.Ev.Flt
open Ieee (double signed Datum)
theorem wK {b:Int} (h:∀x,¬TI b.toNat x):V.tuple [.int .i64 (0:Int),.bool false]=.tuple [.int .i64 (lN b),.bool (vW b)]:=by rw[(OC h).1,(OC h).2]
theorem VZ {b x:Int} (h:TI b.toNat x):V.tuple [.int .i64 x,.bool true]=.tuple [.int .i64 (lN b),.bool (vW b)]:=by rw[(Kc h).1,(Kc h).2]
theorem Mb {b:Nat} {x:Int} (h:TI b x) {s:Bool} {M:Nat} {p:Int} (hr:double.read b=.number s M p):∃Q,M*2^(p+1074).toNat=Q*2^1074∧x=signed s Q 0∧ -9223372036854775808≤x∧x<9223372036854775808:=by
 obtain⟨t,Q,⟨N,q,gr,hq,hv⟩,hx,h1,h2⟩:=h
 rw[hr] at gr
 cases gr
 exact⟨Q,hv,hx,h1,h2⟩
section
variable [Env] [aE] {vs:List V} {σ:St} {k:ah}
theorem PK (h:Ma vs σ k):ag Tryz.prog 270 vs k σ:=by
 unfold Ma at h
 split at h
 ·rename_i b
  obtain⟨hb,h⟩:=h
  refine ag.eJ (aA (Go.Ev.Clean.int _ _) bm) (.tuple (bU (.int _ _) (bU (.bool _) ig))) (F270.flat (live:=E3) (call:=HH) (n₀:=0) (σ:=Go.Ev.start) (fun h=>E6 h) rfl (by kernel_rfl) ?_) h
  rw[ZP]
  cases hr:double.read b.toNat with
  | nan s t=>
   have no:∀x,¬TI b.toNat x:=fun x ⟨_,_,⟨_,_,gr,_⟩,_⟩=>by rw[hr] at gr;cases gr
   refine ae.mk (fun _=>wK no) fun h1=>?_
   have:(Datum.order (double.read b.toNat) (double.read b.toNat) != some .eq)=false:=h1
   rw[hr] at this
   cases this
  | infinity s=>
   have no:∀x,¬TI b.toNat x:=fun x ⟨_,_,⟨_,_,gr,_⟩,_⟩=>by rw[hr] at gr;cases gr
   refine ae.mk (fun _=>wK no) fun _=>ae.mk (fun _=>wK no) fun h2=>ae.mk (fun _=>wK no) fun h3=>?_
   have h2:(Datum.order (double.read b.toNat) (double.read 14114281232179134464)==some .lt)=false:=h2
   have h3:(Datum.order (double.read b.toNat) (double.read 4890909195324358656)==some .gt||Datum.order (double.read b.toNat) (double.read 4890909195324358656)==some .eq)=false:=h3
   rw[hr,xY] at h2
   rw[hr,Ag] at h3
   cases s
   ·cases h3
   ·cases h2
  | number s M p=>
   obtain⟨hp,hM⟩:=Ci hr
   refine ae.mk (fun h1=>?_) fun _=>ae.mk (fun h2=>wK fun x hx=>?_) fun h2=>ae.mk (fun h3=>wK fun x hx=>?_) fun h3=>⟨?_,ae.mk (fun h4=>wK fun x hx=>?_) fun h4=>?_⟩
   ·have h1:(Datum.order (double.read b.toNat) (double.read b.toNat) != some .eq)=true:=h1
    rw[hr,pG hp hp,bne,cmp_eq,decide_eq_true rfl] at h1
    cases h1
   ·obtain⟨t,Q,hw,rfl,h5,_⟩:=hx
    rw[hw.lt] at h2
    have:=of_decide_eq_true h2
    omega
   ·obtain⟨t,Q,hw,rfl,_,h5⟩:=hx
    rw[hw.ge] at h3
    have:=of_decide_eq_true h3
    omega
   ·show(double.read b.toNat).isNaN=false
    rw[hr];rfl
   ·obtain⟨Q,hv,_⟩:=Mb hx hr
    refine(Cj hr h2 h3).2.mp h4 ?_
    rw[Sy hp hv];exact hv
   ·have hv:M*2^(p+1074).toNat=((M <<< p.toNat)/2^(-p).toNat)*2^1074:=Classical.byContradiction fun c=>by
     have:=(Cj hr h2 h3).2.mpr c
     rw[h4] at this;cases this
    have hw:Wh b.toNat s ((M <<< p.toNat)/2^(-p).toNat):=⟨M,p,hr,hp,hv⟩
    rw[hw.lt] at h2
    rw[hw.ge] at h3
    have h2:=of_decide_eq_false h2
    have h3:=of_decide_eq_false h3
    refine⟨hw.zW (by omega) (by omega),?_⟩
    rw[hw.nq]
    exact VZ ⟨s,_,hw,rfl,by omega,by omega⟩
 ·exact h.elim
theorem E7:∀ {f:FuncId} {vs:List V} {σ:St} {k:ah},HI f vs σ k→ag Tryz.prog f vs k σ:=fun h=>aR PK E6 h
end
end Go.Proofs.YtbajncpfmemdgaaGreatDoor
end
section
namespace Go.Proofs.YtbajncpfmemdgaaGreatDoor
open Go Go.Ev
def E8 (v:ay):Prop:=yR v∧fg v.f1
def mX:ay:=⟨0,0,0,[]⟩
def il (n d:Int):Int:=if d=1 then(if n=0∨n=1 then 0 else 6) else if d=3 then(if se n=true then 0 else 6) else 0
def fZ (n d:Int):ay:=
 if d=1 then(if n=0∨n=1 then⟨d,n,0,[]⟩ else mX) else if d=3 then(if se n=true then⟨d,0,Ck n,[]⟩ else mX)
 else if d=4 then⟨d,0,0,qN (IntKind.u64.wrap n) 8⟩ else if d=5 then⟨d,0,0,ij n⟩ else⟨d,n,0,[]⟩
def qQ:List UInt8:=[102,97,108,115,101]
def vh:List UInt8:=[116,114,117,101]
def mJ (n d:Int):ay:=if d=5 then(if n=1 then⟨d,0,0,vh⟩ else⟨d,0,0,qQ⟩) else fZ n d
noncomputable def pH (b d:Int):Int:=if d=4 then 0 else if vW b=true then il (lN b) d else 6
noncomputable def nT (b d:Int):ay:=if d=4 then⟨d,0,0,qN b 8⟩ else if vW b=true then fZ (lN b) d else mX
noncomputable def lO (s:List UInt8) (d:Int):Int:=if d=5 then(if fP s.length s=true then 0 else 7) else if s.length=8 then 0 else 6
noncomputable def ka (s:List UInt8) (d:Int):ay:=
 if d=5 then(if fP s.length s=true then⟨d,0,0,s⟩ else mX) else if s.length=8 then(if d=3 then⟨d,0,jB (lM s 8),[]⟩ else⟨d,IntKind.i64.wrap (lM s 8),0,[]⟩) else mX
noncomputable def jO (s:List UInt8) (d:Int):Int:=if d=4 then 0 else if d=1 then(if s=vh∨s=qQ then 0 else 7) else jY s
noncomputable def kl (s:List UInt8) (d:Int):ay:=if d=4 then⟨d,0,0,s⟩ else if d=1 then(if s=vh then⟨d,1,0,[]⟩ else if s=qQ then⟨d,0,0,[]⟩ else mX) else if jY s=0 then⟨d,lL s,0,[]⟩ else mX
noncomputable def Xz (v:ay) (d:Int):Int:=
 if cq v≠0 then cq v else if d<1∨d>5 then 5 else if v.f0=0∨v.f0=d then 0 else if lK v.f0 d=false then 5
 else if v.f0=1 then 0 else if v.f0=2 then il v.f1 d else if v.f0=3 then pH v.f2 d else if v.f0=4 then lO v.f3 d else jO v.f3 d
noncomputable def Cl (v:ay) (d:Int):ay:=
 if cq v≠0 then mX else if d<1∨d>5 then mX else if v.f0=0∨v.f0=d then v else if lK v.f0 d=false then mX
 else if v.f0=1 then mJ v.f1 d else if v.f0=2 then fZ v.f1 d else if v.f0=3 then nT v.f2 d else if v.f0=4 then ka v.f3 d else kl v.f3 d
def OD (v:ay):V:=.func (.func 266) [] [.aK [.int .i64 v.f0,.int .i64 v.f1,.int .u64 v.f2,.str v.f3] 0]
def E9 (e:Int):V:=.func (.func 265) [] [.aK [.int .i64 e] 0]
def vi (e:Int) (v:ay) (σ:St) (k:ah):Prop:=(e=0→k (OD v) σ)∧(e≠0→k (E9 e) σ)
end Go.Proofs.YtbajncpfmemdgaaGreatDoor
end
section
namespace Go.Proofs.YtbajncpfmemdgaaGreatDoor
open Go Go.Ev
end Go.Proofs.YtbajncpfmemdgaaGreatDoor
end
