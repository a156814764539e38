/- Proved: parts of the way: BP3, BP4, BP5, BP6, Frame, Byt, BP7. -/
import Derived.Test.YtbajncpfmemdgaaGreatDoorEvQ14
import Derived.Test.YtbajncpfmemdgaaGreatDoorEvQ13
set_option linter.unusedVariables false
set_option linter.unusedSimpArgs false
section
namespace Go.Proofs.YtbajncpfmemdgaaGreatDoor
open Go Go.Ev Go.IntWalk
section
variable [Env] {vs:List V} {σ:St} {k:ai}
def Pw (i q:Int):Prop:=(i=1∧q=1)∨(i=2∧q=64)∨(i=3∧q=4096)∨(i=4∧q=262144)
def af3 (s:List UInt8):Nat→List SV→Prop
 | 0,ss=>∃(i q:Int),s.length≠0∧cQ (av s 0)≠0∧Pw i q∧i≤cQ (av s 0)∧ss=[.val (.str s),.val (.int .i64 (cQ (av s 0))),.val (.int .i64 (ek (av s 0))),.val (.int .i64 q),.val (.int .i64 i)]
 | 1,ss=>∃(r q lo hi:Int) (i:Nat),s.length≠0∧eK (av s 0)=cQ (av s 0)∧1≤i∧(i:Int)≤cQ (av s 0)∧Rg (av s 0) (cQ (av s 0)) i r q∧(i=1→lo=ke (av s 0)∧hi=kf (av s 0))∧(i≠1→lo=128∧hi=191)∧
   jU s (ke (av s 0)) (kf (av s 0)) ((eK (av s 0)).toNat-1) 1=jU s lo hi ((eK (av s 0)).toNat-i) i∧ss=[.val (.str s),.val (.int .i64 (cQ (av s 0))),.val (.int .i64 r),.val (.int .i64 q),.val (.int .i64 i)]
 | _,_=>False
omit [Env] in
theorem y8 (c:Int):0≤cQ c∧cQ c≤4:=by unfold cQ;(repeat' split)<;>omega
omit [Env] in
theorem af4 (c:Int):(128≤ke c∧kf c≤191)∨eK c=0∨eK c=1:=by unfold ke kf eK;(repeat' split)<;>omega
theorem Uw (h:PF vs σ k):ag Tryz.prog 263 vs k σ:=by
 unfold PF at h
 split at h
 ·rename_i s
  refine ag.aU (A:=qS s) (ar (Go.Ev.Clean.str _) aG) (qS.ga s)
   (F263.bV (live:=wu) (call:=Hg) (n₀:=0) (σ:=Go.Ev.start) (fun h=>NR h) rfl 2 (by kernel_rfl) Nat.lt_wfRel.wf (fun k ss=>(if k=0 then 10 else 5)-bF ss) (af3 s) ?_ ?_ ?_) fun v hv=>by
    rcases hv with ⟨h0,r,rfl⟩ | ⟨h0,e,he,rfl⟩
    ·exact h.1 h0 r
    ·exact h.2 h0 e he
  ·intro k ss hI
   match k,hI with
   | 0,hI=>obtain⟨i,q,_,_,_,_,rfl⟩:=hI;exact gv (ay (ay (ay (ay bg))))
   | 1,hI=>obtain⟨r,q,lo,hi,i,_,_,_,_,_,_,_,_,rfl⟩:=hI;exact gv (ay (ay (ay (ay bg))))
  ·rw[afs]
   have hb:=iJ s 0
   refine⟨rfl,aq (fun h0=>.bad ?_ (by decide)) fun h0=>?_⟩
   ·rw[aO] at h0
    unfold cD;rw[if_pos (by omega)]
   ·rw[aO] at h0
    have hl:s.length≠0:=by omega
    have e:IntKind.i64.wrap (bu s 0)=av s 0:=i64_in _ (by show _≤av s 0∧av s 0≤_;omega)
    rw[e]
    refine⟨⟨by decide,by rw[aO];omega⟩,rfl,aq (fun h1=>.bad ?_ (by decide)) fun h1=>⟨1,1,hl,h1,.inl ⟨rfl,rfl⟩,?_,rfl⟩⟩
    ·rw[kg hl]
     rcases vj _ hb with h | h | h | h | h
     ·omega
     ·omega
     ·omega
     ·omega
     ·rw[h.2];split<;>rfl
    ·have:=y8 (av s 0);omega
  ·intro k hk ss hI
   have hb:=iJ s 0
   have hlr:=y8 (av s 0)
   match k,hk,hI with
   | 0,_,hI=>
    obtain⟨i,q,hl,h0,hp,hi,rfl⟩:=hI
    rw[ab4]
    refine⟨rfl,aq (fun h1=>?_) fun h1=>?_⟩
    ·have hq:1≤q∧q≤262144∧1≤i∧i≤4:=by unfold Pw at hp;omega
     rw[i64_in (q*64) (by omega),i64_in (i+1) (by omega)]
     refine⟨⟨i+1,q*64,hl,h0,?_,by omega,rfl⟩,?_⟩
     ·unfold Pw at hp⊢;omega
     ·show 10-(i+1).toNat<10-i.toNat
      omega
    ·have eQ:i=cQ (av s 0):=by omega
     have hq:(cQ (av s 0)=1∧q=1)∨(cQ (av s 0)=2∧q=64)∨(cQ (av s 0)=3∧q=4096)∨(cQ (av s 0)=4∧q=262144):=by rw[←eQ];exact hp
     obtain⟨⟨f1,f2,f3,f4⟩,f5,f6⟩:=Qa hb h0 hq
     rw[i64_in (ek (av s 0)*q) (by omega),i64_in (ek (av s 0)*q+q) (by omega),i64_in (ek (av s 0)*q+q-1) (by omega)]
     refine aa.mk (fun hf=>.bad ?_ (by decide)) fun ht=>?_
     ·have hf:e7 (ek (av s 0)*q) (ek (av s 0)*q+q-1) (cQ (av s 0))=false:=by simpa using hf
      rw[kg hl,f6 hf];split<;>rfl
     ·have ht:e7 (ek (av s 0)*q) (ek (av s 0)*q+q-1) (cQ (av s 0))=true:=by simpa using ht
      obtain⟨g1,g2⟩:=f5 ht
      refine⟨⟨_,_,ke (av s 0),kf (av s 0),1,hl,g1,by omega,by omega,g2,fun _=>⟨rfl,rfl⟩,fun h=>absurd rfl h,rfl,rfl⟩,?_⟩
      show 5-1<10-i.toNat
      omega
   | 1,_,hI=>
    obtain⟨r,q,lo,hi,i,hl,hu,h1,h2,hg,NP,oA,hc,rfl⟩:=hI
    have hw:=qu (av s 0)
    rw[ab5]
    refine⟨rfl,aq (fun h3=>?_) fun h3=>?_⟩
    ·obtain⟨m,hm⟩:∃m,(eK (av s 0)).toNat-i=m+1:=⟨(eK (av s 0)).toNat-i-1,by omega⟩
     rw[hm,sX] at hc
     have bad:¬(i<s.length∧lo≤av s i∧av s i≤hi)→cD s=0:=fun hn=>by
      rw[kg hl,hc,decide_eq_false hn,Bool.false_and,if_neg (by simp)]
     have cW:128≤lo∧hi≤191:=by
      by_cases e:i=1
      ·obtain⟨rfl,rfl⟩:=NP e
       rcases af4 (av s 0) with h | h | h<;>omega
      ·obtain⟨rfl,rfl⟩:=oA e
       omega
     refine⟨rfl,aq (fun h4=>.bad (bad fun hh=>?_) (by decide)) fun h4=>?_⟩
     ·rw[aO] at h4;omega
     ·rw[aO] at h4
      have hbi:=iJ s i
      have e:IntKind.i64.wrap (bu s i)=av s i:=i64_in _ (by show _≤av s i∧av s i≤_;omega)
      rw[e]
      refine⟨⟨by omega,by rw[aO];omega⟩,rfl,aq (fun h5=>.bad (bad fun hh=>?_) (by decide)) fun h5=>⟨rfl,aq (fun h6=>.bad (bad fun hh=>?_) (by decide)) fun h6=>⟨⟨rfl,by decide⟩,?_⟩⟩⟩
      ·omega
      ·omega
      ·obtain⟨q',s0,s1,s2,s3,s4,s5⟩:=Ut (b:=av s i) hb hu rfl hg h3 ⟨by omega,by omega⟩
       rw[s0,i64_in (r*64) (by omega),i64_in (r*64+av s i) (by omega),i64_in (r*64+av s i-128) (by omega),i64_in q' (by omega),i64_in ((r*64+av s i-128)*q') (by omega),
        i64_in ((r*64+av s i-128)*q'+q') (by omega),i64_in ((r*64+av s i-128)*q'+q'-1) (by omega),i64_in ((i:Int)+1) (by omega)]
       refine aa.mk (fun hf=>.bad (bad fun hh=>?_) (by decide)) fun ht=>?_
       ·have hf:e7 ((r*64+av s i-128)*q') ((r*64+av s i-128)*q'+q'-1) (cQ (av s 0))=false:=by simpa using hf
        rw[Bool.eq_false_iff,ne_eq,s4] at hf
        refine hf fun e=>?_
        obtain⟨rfl,rfl⟩:=NP (by omega)
        exact hh.2
       ·have ht:e7 ((r*64+av s i-128)*q') ((r*64+av s i-128)*q'+q'-1) (cQ (av s 0))=true:=by simpa using ht
        have af5:i<s.length∧lo≤av s i∧av s i≤hi:=by
         refine⟨by omega,?_⟩
         by_cases e:i=1
         ·obtain⟨rfl,rfl⟩:=NP e
          exact s4.1 ht (by omega)
         ·obtain⟨rfl,rfl⟩:=oA e
          omega
        have gh:jU s (ke (av s 0)) (kf (av s 0)) ((eK (av s 0)).toNat-1) 1=jU s 128 191 ((eK (av s 0)).toNat-(i+1)) (i+1):=by
         rw[hc,decide_eq_true af5,Bool.true_and,show(eK (av s 0)).toNat-(i+1)=m by omega]
        refine⟨⟨_,_,128,191,i+1,hl,hu,by omega,by omega,s5 ht,fun h=>by omega,fun _=>⟨rfl,rfl⟩,gh,rfl⟩,?_⟩
        show 5-((i:Int)+1).toNat<5-(i:Int).toNat
        omega
    ·refine .Au ?_ (by omega)
     rw[kg hl,hc,show(eK (av s 0)).toNat-i=0 by omega]
     exact hu
 ·exact h.elim
theorem NS:∀ {f:FuncId} {vs:List V} {σ:St} {k:ai},NF f vs σ k→ag Tryz.prog f vs k σ:=fun h=>aD Uw NR h
def af6 (s:List UInt8):Nat→List SV→Prop
 | 0,ss=>∃(i:Int) (j:Nat),0≤i∧i≤j∧j≤s.length∧dR s.length s=dR (s.drop j).length (s.drop j)∧ss=[.val (.str s),.val (.int .i64 i),.val (.int .i64 j)]
 | _,_=>False
theorem Ux (h:PG vs σ k):ag Tryz.prog 238 vs k σ:=by
 unfold PG at h
 split at h
 ·rename_i s
  obtain⟨hs,h⟩:=h
  refine ag.aU (A:=XI s) (ar (Go.Ev.Clean.str _) aG) (fun v hv=>by obtain⟨c,_,rfl⟩:=hv;exact .int _ _)
   (F238.bV (live:=Ah) (call:=NF) (n₀:=0) (σ:=Go.Ev.start) (fun h=>NS h) rfl 1 (by kernel_rfl) Nat.lt_wfRel.wf (fun _ ss=>65-bF ss) (af6 s) ?_ ?_ ?_) fun v hv=>by obtain⟨c,hc,rfl⟩:=hv;exact h c hc
  ·intro k ss hI
   cases k with
   | zero=>obtain⟨i,j,_,_,_,_,rfl⟩:=hI;exact gv (ay (ay bg))
   | succ k=>exact hI.elim
  ·rw[Eg]
   exact⟨0,0,by omega,by omega,by omega,rfl,rfl⟩
  ·intro k hk ss hI
   obtain rfl:k=0:=by omega
   obtain⟨i,j,h0,h1,h2,he,rfl⟩:=hI
   have hd:cR ((j:Nat):Int).toNat (cV s ((len s:Nat):Int).toNat)=s.drop j:=by
    rw[ea,eG,aO,Int.toNat_natCast,Int.toNat_natCast,List.take_length]
   rw[aft,hd]
   have hn:=sY (s.drop j)
   have hdl:(s.drop j).length=s.length-j:=List.length_drop
   refine⟨rfl,aq (fun h3=>?_) fun h3=>?_⟩
   ·rw[aO] at h3
    refine⟨⟨by omega,by rw[aO];omega,by omega⟩,fun bN r=>⟨rfl,?_⟩,fun hz e bN=>⟨rfl,aq (fun _=>?_) fun hh=>absurd bN hh⟩⟩
    ·obtain⟨w,hw⟩:∃w:Nat,cD (s.drop j)=w:=⟨(cD (s.drop j)).toNat,by omega⟩
     rw[hw] at hn bN⊢
     rw[i64_in (i+1) (by omega),i64_in ((j:Int)+w) (by omega)]
     refine⟨⟨i+1,j+w,by omega,by omega,by omega,?_,rfl⟩,?_⟩
     ·have:=BZ (s:=s.drop j) (by omega) (by rw[hw];exact bN)
      rw[he,this,hw,Int.toNat_natCast,List.drop_drop]
     ·show 65-((j:Int)+w).toNat<65-(j:Int).toNat
      omega
    ·refine⟨-1,⟨fun h=>by omega,fun h=>?_⟩,rfl⟩
     rw[he,BX (Nat.le_refl _) (by omega) hz] at h;cases h
   ·rw[aO] at h3
    have:s.drop j=[]:=List.eq_nil_of_length_eq_zero (by omega)
    exact⟨i,⟨fun _=>by rw[he,this];rfl,fun _=>h0⟩,rfl⟩
 ·exact h.elim
theorem NT:∀ {f:FuncId} {vs:List V} {σ:St} {k:ai},Tf f vs σ k→ag Tryz.prog f vs k σ:=fun h=>aD Ux NS h
theorem Uy (h:PH vs σ k):ag Tryz.prog 203 vs k σ:=by
 unfold PH at h
 split at h
 ·rename_i s
  obtain⟨hs,h⟩:=h
  refine ag.cb (ar (Go.Ev.Clean.str _) aG) (.bool _) (F203.flat (live:=Hh) (call:=Tf) (n₀:=0) (σ:=Go.Ev.start) (fun h=>NT h) rfl (by kernel_rfl) ?_) h
  rw[afu]
  refine⟨hs,fun c hc=>⟨rfl,aq (fun h1=>?_) fun h1=>?_⟩⟩
  ·rw[hc.1 h1]
  ·have:dR s.length s=false:=by
    cases hb:dR s.length s with
    | false=>rfl
    | true=>exact absurd (hc.2 hb) h1
   rw[this]
 ·exact h.elim
theorem NU:∀ {f:FuncId} {vs:List V} {σ:St} {k:ai},Tg f vs σ k→ag Tryz.prog f vs k σ:=fun h=>aD Uy NT h
end
end Go.Proofs.YtbajncpfmemdgaaGreatDoor
end
section
namespace Go.Proofs.YtbajncpfmemdgaaGreatDoor
open Go Go.Ev Go.IntWalk
theorem F194:bc Tryz.prog 194 Tryz.f194:=.of (by kernel_rfl) (by kernel_rfl)
theorem F261:bc Tryz.prog 261 Tryz.f261:=.of (by kernel_rfl) (by kernel_rfl)
theorem F262:bc Tryz.prog 262 Tryz.f262:=.of (by kernel_rfl) (by kernel_rfl)
theorem F237:bc Tryz.prog 237 Tryz.f237:=.of (by kernel_rfl) (by kernel_rfl)
theorem F202:bc Tryz.prog 202 Tryz.f202:=.of (by kernel_rfl) (by kernel_rfl)
theorem wrap_u64 (n:Int):IntKind.u64.wrap n=n%18446744073709551616:=by
 unfold IntKind.wrap
 show(if (false&&_)=true then _ else _)=_
 rfl
theorem Tm (y:Int) (n:Nat) (m:Int) (hm:(m%(2^64:Nat)).toNat=2^n-1) (hn:n≤63) (hy:0≤y∧y<18446744073709551616):IntKind.u64.wrap (BitVec.ofInt IntKind.u64.bits y&&& BitVec.ofInt IntKind.u64.bits m).toNat=y%(2^n:Nat):=by
 have h1:(BitVec.ofInt IntKind.u64.bits y&&& BitVec.ofInt IntKind.u64.bits m).toNat=y.toNat%2^n:=by
  have e:IntKind.u64.bits=64:=rfl
  rw[BitVec.toNat_and,BitVec.toNat_ofInt,BitVec.toNat_ofInt]
  show(y%(2^64:Nat)).toNat&&& (m%(2^64:Nat)).toNat=_
  rw[hm,Nat.and_two_pow_sub_one_eq_mod]
  congr 2
  exact Int.emod_eq_of_lt hy.1 hy.2
 have bI:y.toNat%2^n<2^63:=Nat.lt_of_lt_of_le (Nat.mod_lt _ (Nat.pow_pos (by decide))) (Nat.pow_le_pow_right (by decide) hn)
 rw[h1,wrap_u64,Int.emod_eq_of_lt (by omega) (by have:(2:Nat)^63=9223372036854775808:=rfl;omega),Int.natCast_emod]
 congr 1
 exact Int.toNat_of_nonneg hy.1
theorem K8 (x:Nat):(FloatKind.f64.format.order x x != some .eq)=decide (9218868437227405312<x%9223372036854775808):=by
 show((Ieee.double.read x).order (Ieee.double.read x) != some .eq)=_
 have h1:Ieee.double.signWeight=9223372036854775808:=by decide
 have h2:Ieee.double.binade=4503599627370496:=by decide
 have h3:Ieee.double.infRung=9218868437227405312:=by decide
 have num:∀(s:Bool) (m:Nat) (i:Int),((Ieee.Datum.number s m i).order (.number s m i) != some .eq)=false:=by
  intro s m i
  show(some (compare _ _) != some .eq)=false
  rw[show ∀a:Int,compare a a=.eq from fun a=>by simp [compare,compareOfLessAndEq]]
  rfl
 unfold Ieee.Format.read
 rw[h1,h2,h3]
 dsimp only
 split
 ·rw[num,decide_eq_false (by omega)]
 ·split
  ·rw[num,decide_eq_false (by omega)]
  ·split
   ·rw[decide_eq_false (by omega)]
    show(some (compare _ _) != some .eq)=false
    rw[show ∀a:Nat,compare a a=.eq from fun a=>by simp [compare,compareOfLessAndEq]]
    rfl
   ·rw[decide_eq_true (by omega)];rfl
theorem Hv (x:Int) (h:0≤x∧x<18446744073709551616):Ae x↔9218868437227405312<x.toNat%9223372036854775808:=by
 unfold Ae dT gk
 omega
section
variable [Env] {vs:List V} {σ:St} {k:ai}
theorem Uz (h:PI vs σ k):ag Tryz.prog 194 vs k σ:=by
 unfold PI at h
 split at h
 ·rename_i x
  obtain⟨hx,h⟩:=h
  refine ag.cb (ar (Go.Ev.Clean.int _ _) aG) (.int _ _) (F194.flat (live:=Hi) (call:=Tg) (n₀:=0) (σ:=Go.Ev.start) (fun h=>NU h) rfl (by kernel_rfl) ?_) h
  rw[afv,K8]
  unfold fG
  refine aq (fun h1=>?_) fun h1=>?_
  ·rw[if_pos ((Hv x hx).2 h1)]
  ·rw[if_neg fun hh=>h1 ((Hv x hx).1 hh)]
 ·exact h.elim
theorem Hw:∀ {f:FuncId} {vs:List V} {σ:St} {k:ai},KV f vs σ k→ag Tryz.prog f vs k σ:=fun h=>aD Uz NU h
theorem UA (h:PJ vs σ k):ag Tryz.prog 261 vs k σ:=by
 unfold PJ at h
 split at h
 ·rename_i x
  obtain⟨hx,h⟩:=h
  refine ag.cb (ar (Go.Ev.Clean.int _ _) aG) (.int _ _) (F261.flat (live:=Hj) (call:=KV) (n₀:=0) (σ:=Go.Ev.start) (fun h=>Hw h) rfl (by kernel_rfl) ?_) h
  rw[afw]
  have hd:x.fdiv (2^min (52:Int).toNat IntKind.u64.bits)=x/4503599627370496:=by
   rw[Int.fdiv_eq_ediv_of_nonneg x (by decide)];rfl
  rw[hd,Tm _ 11 2047 (by decide) (by decide) (by omega),i64_in _ (by omega)]
  exact⟨by decide,rfl⟩
 ·exact h.elim
theorem Hz:∀ {f:FuncId} {vs:List V} {σ:St} {k:ai},KW f vs σ k→ag Tryz.prog f vs k σ:=fun h=>aD UA Hw h
theorem UB (h:PK vs σ k):ag Tryz.prog 262 vs k σ:=by
 unfold PK at h
 split at h
 ·rename_i x
  obtain⟨hx,h⟩:=h
  refine ag.cb (ar (Go.Ev.Clean.int _ _) aG) (.int _ _) (F262.flat (live:=Hk) (call:=KW) (n₀:=0) (σ:=Go.Ev.start) (fun h=>Hz h) rfl (by kernel_rfl) ?_) h
  rw[afx,Tm _ 52 4503599627370495 (by decide) (by decide) (by omega)]
  rfl
 ·exact h.elim
theorem HA:∀ {f:FuncId} {vs:List V} {σ:St} {k:ai},KX f vs σ k→ag Tryz.prog f vs k σ:=fun h=>aD UB Hz h
theorem UC (h:PL vs σ k):ag Tryz.prog 237 vs k σ:=by
 unfold PL at h
 split at h
 ·rename_i x
  obtain⟨hx,h⟩:=h
  refine ag.cb (ar (Go.Ev.Clean.int _ _) aG) (.int _ _) (F237.flat (live:=Hl) (call:=KX) (n₀:=0) (σ:=Go.Ev.start) (fun h=>HA h) rfl (by kernel_rfl) ?_) h
  rw[afy];unfold Xy
  repeat' first
   | refine⟨hx,rfl,aq (fun _=>?_) (fun _=>?_)⟩
   | (exfalso;omega)
   | (unfold lA;rw[if_pos (by omega),if_pos (by omega)])
   | (unfold lA;rw[if_pos (by omega),if_neg (by omega)])
   | (unfold lA;rw[if_neg (by omega),if_pos (by omega),if_pos (by omega)])
   | (unfold lA;rw[if_neg (by omega),if_pos (by omega),if_neg (by omega)])
   | (unfold lA;rw[if_neg (by omega),if_neg (by omega)])
 ·exact h.elim
theorem HB:∀ {f:FuncId} {vs:List V} {σ:St} {k:ai},KY f vs σ k→ag Tryz.prog f vs k σ:=fun h=>aD UC HA h
omit [Env] in
theorem XK (x:Int):lA x=1↔Ae x:=by
 unfold lA Ae
 by_cases h1:dT x=2047
 ·rw[if_pos h1]
  by_cases h2:gk x≠0
  ·rw[if_pos h2];exact⟨fun _=>⟨h1,h2⟩,fun _=>rfl⟩
  ·rw[if_neg h2];exact⟨fun h=>(by cases h),fun h=>(h2 h.2).elim⟩
 ·rw[if_neg h1]
  refine⟨fun h=>?_,fun h=>(h1 h.1).elim⟩
  split at h
  ·split at h<;>cases h
  ·cases h
theorem UD (h:PM vs σ k):ag Tryz.prog 202 vs k σ:=by
 unfold PM at h
 split at h
 ·rename_i x
  obtain⟨hx,h⟩:=h
  refine ag.cb (ar (Go.Ev.Clean.int _ _) aG) (.int _ _) (F202.flat (live:=Hm) (call:=KY) (n₀:=0) (σ:=Go.Ev.start) (fun h=>HB h) rfl (by kernel_rfl) ?_) h
  rw[afz]
  unfold fG
  refine⟨hx,rfl,aq (fun h1=>?_) fun h1=>?_⟩
  ·rw[if_pos ((XK x).1 h1)]
  ·rw[if_neg fun hh=>h1 ((XK x).2 hh)]
 ·exact h.elim
theorem HC:∀ {f:FuncId} {vs:List V} {σ:St} {k:ai},KZ f vs σ k→ag Tryz.prog f vs k σ:=fun h=>aD UD HB h
end
end Go.Proofs.YtbajncpfmemdgaaGreatDoor
end
section
namespace Go.Proofs.YtbajncpfmemdgaaGreatDoor
open Go Go.Ev Go.IntWalk
theorem F193:bc Tryz.prog 193 Tryz.f193:=.of (by kernel_rfl) (by kernel_rfl)
theorem F148:bc Tryz.prog 148 Tryz.f148:=.of (by kernel_rfl) (by kernel_rfl)
theorem F153:bc Tryz.prog 153 Tryz.f153:=.of (by kernel_rfl) (by kernel_rfl)
theorem XL:fG 0=0:=by decide
theorem HD (v:aC):(ju v).f1=v.f1↔(v.f1=0∨v.f0=1∨v.f0=2):=by
 unfold ju;(repeat' split)<;>simp_all<;>omega
theorem HE (v:aC):(ju v).f2=v.f2↔(v.f2=0∨v.f0=3):=by
 unfold ju;(repeat' split)<;>simp_all<;>omega
theorem HF (v:aC):(ju v).f3=v.f3↔(v.f3=[]∨v.f0=4∨v.f0=5):=by
 unfold ju
 (repeat' split)
 ·exact⟨fun h=>.inl h.symm,fun h=>by rcases h with h | h | h<;>first | exact h.symm | omega⟩
 ·exact⟨fun h=>.inl h.symm,fun h=>by rcases h with h | h | h<;>first | exact h.symm | omega⟩
 ·rename_i h;exact⟨fun _=>.inr h,fun _=>rfl⟩
 ·exact⟨fun h=>.inl h.symm,fun h=>by rcases h with h | h | h<;>first | exact h.symm | omega⟩
theorem UE (v:aC):(ju v).f0=v.f0:=by
 unfold ju;(repeat' split)<;>rfl
theorem XM {v:aC} (h:v.f0<0∨v.f0≥6):bj v=5:=if_pos h
theorem Tn {v:aC} (h:¬(v.f0<0∨v.f0≥6)) (h1:¬jF v):bj v=4:=by unfold bj;rw[if_neg h,if_pos h1]
theorem ve6 {v:aC} (h:¬(v.f0<0∨v.f0≥6)) (h1:jF v) (h2:v.f0=1∧v.f1≠0∧v.f1≠1):bj v=6:=by unfold bj;rw[if_neg h,if_neg (fun hh=>hh h1),if_pos h2]
theorem XN {v:aC} (h:¬(v.f0<0∨v.f0≥6)) (h1:jF v) (h2:¬(v.f0=1∧v.f1≠0∧v.f1≠1)) (h3:fG v.f2≠v.f2):bj v=4:=by unfold bj;rw[if_neg h,if_neg (fun hh=>hh h1),if_neg h2,if_pos h3]
theorem ve2 {v:aC} (h:¬(v.f0<0∨v.f0≥6)) (h1:jF v) (h2:¬(v.f0=1∧v.f1≠0∧v.f1≠1)) (h3:fG v.f2=v.f2) (h4:v.f3.length>64):bj v=2:=by
 unfold bj;rw[if_neg h,if_neg (fun hh=>hh h1),if_neg h2,if_neg (fun hh=>hh h3),if_pos h4]
theorem ve7 {v:aC} (h:¬(v.f0<0∨v.f0≥6)) (h1:jF v) (h2:¬(v.f0=1∧v.f1≠0∧v.f1≠1)) (h3:fG v.f2=v.f2) (h4:¬v.f3.length>64) (h5:v.f0=5) (h6:dR v.f3.length v.f3=false):bj v=7:=by
 unfold bj;rw[if_neg h,if_neg (fun hh=>hh h1),if_neg h2,if_neg (fun hh=>hh h3),if_neg h4,if_pos ⟨h5,h6⟩]
theorem To {v:aC} (h:¬(v.f0<0∨v.f0≥6)) (h1:jF v) (h2:¬(v.f0=1∧v.f1≠0∧v.f1≠1)) (h3:fG v.f2=v.f2) (h4:¬v.f3.length>64) (h5:¬(v.f0=5∧dR v.f3.length v.f3=false)):bj v=0:=by
 unfold bj;rw[if_neg h,if_neg (fun hh=>hh h1),if_neg h2,if_neg (fun hh=>hh h3),if_neg h4,if_neg h5]
theorem mw {v:aC} {c:Int} (h:bj v=c):V.int .i64 c=.int .i64 (bj v):=by rw[h]
section
variable [Env] {vs:List V} {σ:St} {k:ai}
theorem UF (h:PN vs σ k):ag Tryz.prog 193 vs k σ:=by
 unfold PN at h
 split at h
 ·rename_i a b c s
  have hs:∀e:aC,dK (aC.enc e):=fun e=>.agg (bD (.int _ _) (bD (.int _ _) (bD (.int _ _) (bD (.str _) gb))))
  refine ag.cb (us:=[aC.enc ⟨a,b,c,s⟩]) (ar (aC.aE ⟨a,b,c,s⟩) aG) (hs (ju ⟨a,b,c,s⟩)) (F193.flat (live:=Hn) (call:=KZ) (n₀:=0) (σ:=Go.Ev.start) (fun h=>HC h) rfl (by kernel_rfl) ?_) h
  rw[afA]
  unfold ju
  refine⟨rfl,aq (fun h1=>?_) fun h1=>⟨rfl,aq (fun h2=>?_) fun h2=>⟨rfl,aq (fun h3=>?_) fun h3=>⟨rfl,aq (fun h4=>?_) fun h4=>⟨rfl,aq (fun h5=>?_) fun h5=>?_⟩⟩⟩⟩⟩
  ·rw[if_pos (.inl h1)];rfl
  ·rw[if_pos (.inr h2)];rfl
  ·rw[if_neg (by simp_all),if_pos h3];rfl
  ·rw[if_neg (by simp_all),if_neg h3,if_pos (.inl h4)];rfl
  ·rw[if_neg (by simp_all),if_neg h3,if_pos (.inr h5)];rfl
  ·rw[if_neg (by simp_all),if_neg h3,if_neg (by simp_all)];rfl
 ·exact h.elim
theorem HG:∀ {f:FuncId} {vs:List V} {σ:St} {k:ai},K0 f vs σ k→ag Tryz.prog f vs k σ:=fun h=>aD UF HC h
theorem UG (h:PO vs σ k):ag Tryz.prog 148 vs k σ:=by
 unfold PO at h
 split at h
 ·rename_i a b c s
  obtain⟨hc,h⟩:=h
  refine ag.cb (us:=[aC.enc ⟨a,b,c,s⟩]) (ar (aC.aE ⟨a,b,c,s⟩) aG) (.int _ _) (F148.flat (live:=Ho) (call:=K0) (n₀:=0) (σ:=Go.Ev.start) (fun h=>HG h) rfl (by kernel_rfl) ?_) h
  generalize he:(⟨a,b,c,s⟩:aC)=e
  have gh:0≤e.f2∧e.f2<18446744073709551616:=by subst he;exact hc
  have hb:∀ {A:Prop},A→aa (V.beq (.agg [.int .i64 e.f0,.int .i64 e.f1,.int .u64 e.f2,.str e.f3]) (.agg [.int .i64 e.f0,.int .i64 e.f1,.int .u64 e.f2,.str e.f3])&&true) A False:=fun hA=>aa.mk (fun _=>hA) fun h=>by simp [V.beq,V.gS] at h
  have MU:∀ {A:Prop},A→aa (V.beq (.int .u64 e.f2) (.int .u64 e.f2)&&true) A False:=fun hA=>aa.mk (fun _=>hA) fun h=>by simp [V.beq] at h
  rw[afB];unfold Th
  refine⟨rfl,aq (fun h1=>mw (XM (.inl h1))) fun h1=>⟨rfl,aq (fun h2=>mw (XM (.inr h2))) fun h2=>hb ?_⟩⟩
  have h0:¬(e.f0<0∨e.f0≥6):=by omega
  refine⟨rfl,aq (fun _=>⟨rfl,aq (fun a1=>⟨rfl,aq (fun a2=>aq (fun a3=>?_) fun a3=>?_) fun a2=>?_⟩) fun a1=>?_⟩) fun a0=>absurd (UE e) a0⟩
  ·have ho:jF e:=⟨(HD e).1 a1,(HE e).1 a2,(HF e).1 a3⟩
   refine⟨rfl,aq (fun k1=>⟨rfl,aq (fun k2=>⟨rfl,aq (fun k3=>mw (ve6 h0 ho ⟨k1,k2,k3⟩)) fun k3=>?_⟩) fun k2=>?_⟩) fun k1=>?_⟩
   all_goals have hk:¬(e.f0=1∧e.f1≠0∧e.f1≠1):=by omega
   all_goals refine⟨gh,MU ⟨rfl,aq (fun c1=>mw (XN h0 ho hk c1)) fun c1=>⟨rfl,aq (fun c2=>?_) fun c2=>⟨rfl,aq (fun c3=>⟨?_,aa.mk (fun c4=>?_) fun c4=>?_⟩) fun c3=>?_⟩⟩⟩⟩
   all_goals have c1:=Decidable.not_not.1 c1
   all_goals (rw[aO] at c2)
   all_goals first
    | exact mw (ve2 h0 ho hk c1 (by omega))
    | (show e.f3.length≤64;omega)
    | exact mw (ve7 h0 ho hk c1 (by omega) c3 (by simpa using c4))
    | exact mw (To h0 ho hk c1 (by omega) fun hh=>by rw[hh.2] at c4;cases c4)
    | exact mw (To h0 ho hk c1 (by omega) fun hh=>c3 hh.1)
  ·exact mw (Tn h0 fun ho=>a3 ((HF e).2 ho.2.2))
  ·exact mw (Tn h0 fun ho=>a2 ((HE e).2 ho.2.1))
  ·exact mw (Tn h0 fun ho=>a1 ((HD e).2 ho.1))
 ·exact h.elim
theorem HH:∀ {f:FuncId} {vs:List V} {σ:St} {k:ai},K1 f vs σ k→ag Tryz.prog f vs k σ:=fun h=>aD UG HG h
theorem UH (h:PR vs σ k):ag Tryz.prog 153 vs k σ:=by
 unfold PR at h
 split at h
 ·rename_i a b c s
  obtain⟨hc,h⟩:=h
  refine ag.cb (us:=[aC.enc ⟨a,b,c,s⟩]) (ar (aC.aE ⟨a,b,c,s⟩) aG) (.int _ _) (F153.flat (live:=Hp) (call:=K1) (n₀:=0) (σ:=Go.Ev.start) (fun h=>HH h) rfl (by kernel_rfl) ?_) h
  generalize he:(⟨a,b,c,s⟩:aC)=e
  have gh:0≤e.f2∧e.f2<18446744073709551616:=by subst he;exact hc
  have MU:∀ {A:Prop},A→aa (V.beq (.int .u64 e.f2) (.int .u64 e.f2)&&true) A False:=fun hA=>aa.mk (fun _=>hA) fun h=>by simp [V.beq] at h
  have XO:e.f0<0∨e.f0≥6→V.int .i64 5=.int .i64 (bj e):=fun h=>mw (XM h)
  have four:¬(e.f0<0∨e.f0≥6)→¬jF e→V.int .i64 4=.int .i64 (bj e):=fun h h1=>mw (Tn h h1)
  have tail:¬(e.f0<0∨e.f0≥6)→jF e→¬(e.f0=1∧e.f1≠0∧e.f1≠1)→fG e.f2=e.f2→(IntKind.i64=.i64)∧aa (decide (((len e.f3:Nat):Int)>(64:Int))) (V.int .i64 2=.int .i64 (bj e))
    ((IntKind.i64=.i64)∧aa (decide (e.f0=(5:Int))) (e.f3.length≤64∧aa (!(dR e.f3.length e.f3)) (V.int .i64 7=.int .i64 (bj e)) (V.int .i64 0=.int .i64 (bj e))) (V.int .i64 0=.int .i64 (bj e))):=by
   intro h0 ho hk c1
   refine⟨rfl,aq (fun c2=>?_) fun c2=>⟨rfl,aq (fun c3=>⟨?_,aa.mk (fun c4=>?_) fun c4=>?_⟩) fun c3=>?_⟩⟩
   all_goals (rw[aO] at c2)
   ·exact mw (ve2 h0 ho hk c1 (by omega))
   ·omega
   ·exact mw (ve7 h0 ho hk c1 (by omega) c3 (by simpa using c4))
   ·exact mw (To h0 ho hk c1 (by omega) fun hh=>by rw[hh.2] at c4;cases c4)
   ·exact mw (To h0 ho hk c1 (by omega) fun hh=>c3 hh.1)
  have canon:¬(e.f0<0∨e.f0≥6)→jF e→¬(e.f0=1∧e.f1≠0∧e.f1≠1)→(IntKind.i64=.i64)∧aa (decide (e.f0=(3:Int))) ((0≤e.f2∧e.f2<18446744073709551616)∧aa (V.beq (.int .u64 e.f2) (.int .u64 e.f2)&&true) ((IntKind.u64=.u64)∧aa (decide (fG e.f2≠e.f2)) (V.int .i64 4=.int .i64 (bj e))
    ((IntKind.i64=.i64)∧aa (decide (((len e.f3:Nat):Int)>(64:Int))) (V.int .i64 2=.int .i64 (bj e)) ((IntKind.i64=.i64)∧aa (decide (e.f0=(5:Int))) (e.f3.length≤64∧aa (!(dR e.f3.length e.f3)) (V.int .i64 7=.int .i64 (bj e)) (V.int .i64 0=.int .i64 (bj e))) (V.int .i64 0=.int .i64 (bj e))))) False)
    ((IntKind.i64=.i64)∧aa (decide (((len e.f3:Nat):Int)>(64:Int))) (V.int .i64 2=.int .i64 (bj e)) ((IntKind.i64=.i64)∧aa (decide (e.f0=(5:Int))) (e.f3.length≤64∧aa (!(dR e.f3.length e.f3)) (V.int .i64 7=.int .i64 (bj e)) (V.int .i64 0=.int .i64 (bj e))) (V.int .i64 0=.int .i64 (bj e)))):=by
   intro h0 ho hk
   refine⟨rfl,aq (fun k3=>⟨gh,MU ⟨rfl,aq (fun c1=>mw (XN h0 ho hk c1)) fun c1=>tail h0 ho hk (Decidable.not_not.1 c1)⟩⟩) fun k3=>tail h0 ho hk ?_⟩
   rcases ho.2.1 with h | h
   ·rw[h];exact XL
   ·exact absurd h k3
  rw[afC];unfold XA XB Xz Tj pF Ti PQ
  repeat' first
   | refine⟨rfl,aq (fun _=>XO (by omega)) (fun _=>?_)⟩
   | refine canon (by omega) ⟨by omega,by omega,by first | exact .inl (Decidable.not_not.1 ‹¬(e.f3≠[])›) | omega⟩ (by omega)
   | refine⟨rfl,aq (fun _=>?_) (fun _=>?_)⟩
   | refine aq (fun _=>?_) (fun _=>?_)
  all_goals first
   | exact XO (by omega)
   | (refine four (by omega) fun ho=>?_;obtain⟨o1,o2,o3⟩:=ho;first | omega | (rcases o3 with o3 | o3 | o3<;>first | contradiction | omega))
   | exact mw (ve6 (by omega) ⟨by omega,by omega,by first | exact .inl (Decidable.not_not.1 ‹¬(e.f3≠[])›) | omega⟩ ⟨by omega,by omega,by omega⟩)
   | (exfalso;omega)
 ·exact h.elim
theorem Av:∀ {f:FuncId} {vs:List V} {σ:St} {k:ai},Ai f vs σ k→ag Tryz.prog f vs k σ:=fun h=>aD UH HH h
end
end Go.Proofs.YtbajncpfmemdgaaGreatDoor
end
section
namespace Go.Proofs.YtbajncpfmemdgaaGreatDoor
open Go Go.Ev Go.IntWalk
theorem F176:bc Tryz.prog 176 Tryz.f176:=.of (by kernel_rfl) (by kernel_rfl)
theorem F152:bc Tryz.prog 152 Tryz.f152:=.of (by kernel_rfl) (by kernel_rfl)
theorem F106:bc Tryz.prog 106 Tryz.f106:=.of (by kernel_rfl) (by kernel_rfl)
theorem F222:bc Tryz.prog 222 Tryz.f222:=.of (by kernel_rfl) (by kernel_rfl)
theorem F178:bc Tryz.prog 178 Tryz.f178:=.of (by kernel_rfl) (by kernel_rfl)
theorem F42:bc Tryz.prog 42 Tryz.f42:=.of (by kernel_rfl) (by kernel_rfl)
theorem F108:bc Tryz.prog 108 Tryz.f108:=.of (by kernel_rfl) (by kernel_rfl)
def mZ (b:Int) (i:Nat):Prop:=(97≤b∧b≤122)∨(i≠0∧((48≤b∧b≤57)∨b=95))
theorem Qb (b:Int) (i:Nat):(eC b||(decide (i≠0)&&KU b))=true↔mZ b i:=by
 unfold mZ eC KU
 rw[Bool.or_eq_true,Bool.and_eq_true,decide_eq_true_iff,decide_eq_true_iff,decide_eq_true_iff]
theorem vk (s:List UInt8):∀n,CC s n=true↔∀i,i<n→mZ (av s i) i
 | 0=>⟨fun _ i hi=>absurd hi (Nat.not_lt_zero i),fun _=>rfl⟩
 | n+1=>by
  show(CC s n&&(eC (av s n)||(decide (n≠0)&&KU (av s n))))=true↔_
  rw[Bool.and_eq_true,Qb,vk s n]
  constructor
  ·intro h i hi
   by_cases e:i=n
   ·rw[e];exact h.2
   ·exact h.1 i (by omega)
  ·exact fun h=>⟨fun i hi=>h i (by omega),h n (by omega)⟩
theorem CD {s:List UInt8} (h:s.length=0∨s.length>16):aF s=8:=if_pos h
theorem Er {s:List UInt8} {i:Nat} (hi:i<s.length) (h:¬mZ (av s i) i):aF s=8:=by
 by_cases h0:s.length=0∨s.length>16
 ·exact CD h0
 ·unfold aF
  rw[if_neg h0,if_neg fun hh=>h ((vk s _).1 hh i hi)]
theorem Tp {s:List UInt8} (h0:¬(s.length=0∨s.length>16)) (h:∀i,i<s.length→mZ (av s i) i):aF s=0:=by
 unfold aF
 rw[if_neg h0,if_pos ((vk s _).2 h)]
theorem Aw (s:List UInt8) (q:Nat→List UInt8):∀n,0≤kM s q n∧kM s q n≤n∧(0<kM s q n↔∃i,i<n∧q i=s)
 | 0=>⟨by show(0:Int)≤0;omega,by show(0:Int)≤0;omega,⟨fun h=>by have h:(0:Int)<0:=h;omega,fun⟨i,hi,_⟩=>absurd hi (Nat.not_lt_zero i)⟩⟩
 | n+1=>by
  obtain⟨h1,h2,h3⟩:=Aw s q n
  have e:kM s q (n+1)=kM s q n+if q n=s then 1 else 0:=rfl
  rw[e]
  by_cases hq:q n=s
  ·rw[if_pos hq]
   exact⟨by omega,by omega,⟨fun _=>⟨n,by omega,hq⟩,fun _=>by omega⟩⟩
  ·rw[if_neg hq]
   refine⟨by omega,by omega,⟨fun h=>?_,fun⟨i,hi,he⟩=>?_⟩⟩
   ·obtain⟨i,hi,he⟩:=h3.1 (by omega)
    exact⟨i,by omega,he⟩
   ·have:i≠n:=fun e=>hq (by rw[←e];exact he)
    have:=h3.2 ⟨i,by omega,he⟩
    omega
theorem xM (s:List UInt8) (q:Nat→List UInt8):∀n,1<kM s q n↔∃i j,i<j∧j<n∧q i=s∧q j=s
 | 0=>⟨fun h=>by have h:(1:Int)<0:=h;omega,fun⟨i,j,_,hj,_⟩=>absurd hj (Nat.not_lt_zero j)⟩
 | n+1=>by
  obtain⟨h1,h2,h3⟩:=Aw s q n
  have ih:=xM s q n
  have e:kM s q (n+1)=kM s q n+if q n=s then 1 else 0:=rfl
  rw[e]
  by_cases hq:q n=s
  ·rw[if_pos hq]
   constructor
   ·intro h
    obtain⟨i,hi,he⟩:=h3.1 (by omega)
    exact⟨i,n,hi,by omega,he,hq⟩
   ·rintro⟨i,j,mj,hj,e1,e2⟩
    have:=h3.2 ⟨i,by omega,e1⟩
    omega
  ·rw[if_neg hq,Int.add_zero,ih]
   constructor
   ·rintro⟨i,j,mj,hj,e1,e2⟩;exact⟨i,j,mj,by omega,e1,e2⟩
   ·rintro⟨i,j,mj,hj,e1,e2⟩
    have:j≠n:=fun e=>hq (by rw[←e];exact e2)
    exact⟨i,j,mj,by omega,e1,e2⟩
theorem iA (s:List UInt8) (q:Nat→List UInt8):∀n,(∀i,i<n→q i≠s)→bT s q n= -1
 | 0,_=>rfl
 | n+1,h=>by
  show(if bT s q n≠ -1 then bT s q n else if q n=s then(n:Int) else -1)= -1
  rw[iA s q n fun i hi=>h i (by omega),if_neg (by decide),if_neg (h n (by omega))]
theorem kD (s:List UInt8) (q:Nat→List UInt8):∀n i,i<n→q i=s→(∀j,j<i→q j≠s)→bT s q n=i
 | 0,i,hi,_,_=>absurd hi (Nat.not_lt_zero i)
 | n+1,i,hi,he,hl=>by
  show(if bT s q n≠ -1 then bT s q n else if q n=s then(n:Int) else -1)=i
  by_cases e:i=n
  ·subst e
   rw[iA s q i hl,if_neg (by decide),if_pos he]
  ·rw[kD s q n i (by omega) he hl,if_pos (by omega)]
theorem jJ (s:List UInt8) (q:Nat→List UInt8) (n:Nat):(bT s q n= -1∧∀i,i<n→q i≠s)∨∃i:Nat,bT s q n=i∧i<n∧q i=s∧∀j,j<i→q j≠s:=by
 by_cases h:∃i,i<n∧q i=s
 ·right
  obtain⟨i,hi,he⟩:=h
  induction i using Nat.strongRecOn with
  | _ i ih=>
   by_cases hl:∃j,j<i∧q j=s
   ·obtain⟨j,hj,hej⟩:=hl
    exact ih j hj (by omega) hej
   ·have cS:∀j,j<i→q j≠s:=fun j hj e=>hl ⟨j,hj,e⟩
    exact⟨i,kD s q n i hi he cS,hi,he,cS⟩
 ·left
  have h':∀i,i<n→q i≠s:=fun i hi e=>h ⟨i,hi,e⟩
  exact⟨iA s q n h',h'⟩
theorem nY (q:Nat→List UInt8):∀n,fU q n=true↔∀i j,i<j→j<n→q i≠q j
 | 0=>⟨fun _ i j _ hj=>absurd hj (Nat.not_lt_zero j),fun _=>rfl⟩
 | n+1=>by
  show(fU q n&&decide (bT (q n) q n= -1))=true↔_
  rw[Bool.and_eq_true,nY q n,decide_eq_true_iff]
  constructor
  ·rintro⟨h1,h2⟩ i j mj hj
   by_cases e:j=n
   ·subst e
    rcases jJ (q j) q j with ⟨_,h⟩ | ⟨m,hm,_⟩
    ·exact h i mj
    ·rw[h2] at hm;omega
   ·exact h1 i j mj (by omega)
  ·exact fun h=>⟨fun i j mj hj=>h i j mj (by omega),iA _ _ _ fun i hi=>h i n hi (by omega)⟩
section
variable [Env] {vs:List V} {σ:St} {k:ai}
theorem lT (n:Nat) (h:Nat→List UInt8):Go.Ev.Clean (V.arr n (fun i=>V.str (h i)) 1 false false):=
 Go.Ev.Clean.arr fun i _ u hu=>by
  have hu:u∈[V.str (h i)]:=hu
  rw[List.mem_singleton] at hu
  subst hu;exact Go.Ev.Clean.str _
def XP (s:List UInt8):Nat→List SV→Prop
 | 0,ss=>∃i:Nat,i≤s.length∧(∀j,j<i→mZ (av s j) j)∧ss=[.row (len s) (dE s) 1,.val (.int .i64 ((len s:Nat):Int)),.val (.int .i64 i)]
 | _,_=>False
theorem UI (h:PV vs σ k):ag Tryz.prog 176 vs k σ:=by
 unfold PV at h
 split at h
 ·rename_i s
  refine ag.cb (ar (Go.Ev.Clean.str _) aG) (.int _ _) ?_ h
  by_cases h0:s.length=0∨s.length>16
  ·refine F176.bV (live:=wv) (call:=Ai) (n₀:=0) (σ:=Go.Ev.start) (fun h=>Av h) rfl 1 (by kernel_rfl) Nat.lt_wfRel.wf (fun _ _=>0) (fun _ _=>False) (fun _ _ h=>h.elim) ?_ fun _ _ _ h=>h.elim
   rw[XC,CD h0]
   refine aq (fun _=>rfl) fun h1=>⟨rfl,aq (fun _=>rfl) fun h2=>?_⟩
   rw[aO] at h2
   rcases h0 with h0 | h0
   ·exact absurd (List.eq_nil_of_length_eq_zero h0) h1
   ·omega
  ·refine F176.bV (live:=wv) (call:=Ai) (n₀:=0) (σ:=Go.Ev.start) (fun h=>Av h) rfl 1 (by kernel_rfl) Nat.lt_wfRel.wf (fun _ ss=>20-bF ss) (XP s) ?_ ?_ ?_
   ·intro k ss hI
    cases k with
    | zero=>
     obtain⟨i,_,_,rfl⟩:=hI
     refine ax (fun j _ u hu=>?_) (ay (ay bg))
     have hu:u∈[dE s j]:=hu
     rw[List.mem_singleton] at hu
     subst hu;exact Go.Ev.Clean.int _ _
    | succ k=>exact hI.elim
   ·rw[XC]
    refine aq (fun h1=>absurd (by rw[h1];rfl:s.length=0) fun e=>h0 (.inl e)) fun h1=>⟨rfl,aq (fun h2=>?_) fun h2=>⟨?_,⟨rfl,rfl⟩,0,by omega,fun j hj=>absurd hj (Nat.not_lt_zero j),rfl⟩⟩
    ·rw[aO] at h2;omega
    ·rw[aO];omega
   ·intro k hk ss hI
    obtain rfl:k=0:=by omega
    obtain⟨i,hi,hj,rfl⟩:=hI
    rw[afD];unfold PU PT PS
    refine⟨rfl,aq (fun h1=>?_) fun h1=>?_⟩
    ·rw[aO] at h1
     rw[Int.toNat_natCast]
     refine⟨⟨by omega,by rw[aO];omega⟩,by rw[aO];omega,?_⟩
     have bad:¬mZ (av s i) i→V.int .i64 8=.int .i64 (aF s):=fun hn=>by rw[Er (by omega) hn]
     have cont:mZ (av s i) i→(len s=len s∧1=1)∧(XP s 0 [.row (len s) (dE s) 1,.val (.int .i64 ((len s:Nat):Int)),.val (.int .i64 (IntKind.i64.wrap ((i:Int)+1)))]∧
       (fun x1 x2:Nat=>x1<x2) (20-bF [.row (len s) (dE s) 1,.val (.int .i64 ((len s:Nat):Int)),.val (.int .i64 (IntKind.i64.wrap ((i:Int)+1)))]) (20-bF [.row (len s) (dE s) 1,.val (.int .i64 ((len s:Nat):Int)),.val (.int .i64 i)])):=fun hc=>by
      rw[i64_in ((i:Int)+1) (by omega)]
      refine⟨⟨rfl,rfl⟩,⟨i+1,by omega,fun j gK=>?_,rfl⟩,?_⟩
      ·by_cases e:j=i
       ·rw[e];exact hc
       ·exact hj j (by omega)
      ·show 20-((i:Int)+1).toNat<20-(i:Int).toNat
       omega
     unfold mZ at bad cont
     repeat' first
      | exact cont (by omega)
      | exact bad (by omega)
      | refine⟨rfl,aq (fun _=>?_) (fun _=>?_)⟩
    ·rw[aO] at h1
     rw[Tp h0 fun j gK=>hj j (by omega)]
 ·exact h.elim
theorem HI:∀ {f:FuncId} {vs:List V} {σ:St} {k:ai},K2 f vs σ k→ag Tryz.prog f vs k σ:=fun h=>aD UI Av h
theorem UJ (h:PW vs σ k):ag Tryz.prog 152 vs k σ:=by
 unfold PW at h
 split at h
 ·rename_i c
  refine ag.cb (ar (Go.Ev.Clean.int _ _) aG) (.bool _) (F152.flat (live:=Hq) (call:=K2) (n₀:=0) (σ:=Go.Ev.start) (fun h=>HI h) rfl (by kernel_rfl) ?_) h
  rw[afE]
  unfold eC
  refine⟨rfl,aq (fun h1=>⟨rfl,aq (fun h2=>?_) fun h2=>?_⟩) fun h1=>?_⟩
  ·rw[decide_eq_true ⟨h1,h2⟩]
  ·rw[decide_eq_false fun hh=>h2 hh.2]
  ·rw[decide_eq_false fun hh=>h1 hh.1]
 ·exact h.elim
theorem HJ:∀ {f:FuncId} {vs:List V} {σ:St} {k:ai},Eh f vs σ k→ag Tryz.prog f vs k σ:=fun h=>aD UJ HI h
def XQ (s:List UInt8):Nat→List SV→Prop
 | 0,ss=>∃i:Nat,1≤i∧i≤s.length∧(∀j,j<i→mZ (av s j) j)∧ss=[.val (.str s),.val (.int .i64 i)]
 | _,_=>False
omit [Env] in
theorem sZ (c:Int):eC c=true↔97≤c∧c≤122:=by unfold eC;rw[decide_eq_true_iff]
theorem UK (h:PX vs σ k):ag Tryz.prog 106 vs k σ:=by
 unfold PX at h
 split at h
 ·rename_i s
  refine ag.cb (ar (Go.Ev.Clean.str _) aG) (.int _ _) ?_ h
  refine F106.bV (live:=Aj) (call:=Eh) (n₀:=0) (σ:=Go.Ev.start) (fun h=>HJ h) rfl 1 (by kernel_rfl) Nat.lt_wfRel.wf (fun _ ss=>20-bF ss) (fun k ss=>¬(s.length=0∨s.length>16)∧XQ s k ss) ?_ ?_ ?_
  ·rintro k ss ⟨_,hI⟩
   cases k with
   | zero=>obtain⟨i,_,_,_,rfl⟩:=hI;exact gv (ay bg)
   | succ k=>exact hI.elim
  ·rw[afF]
   refine⟨rfl,aq (fun h1=>?_) fun h1=>⟨rfl,aq (fun h2=>?_) fun h2=>⟨⟨by decide,?_⟩,aa.mk (fun h3=>?_) fun h3=>?_⟩⟩⟩
   ·rw[aO] at h1;rw[CD (.inl (by omega))]
   ·rw[aO] at h2;rw[CD (.inr (by omega))]
   ·rw[aO] at h1⊢;omega
   ·rw[aO] at h1
    have XR:eC (bu s 0)=false:=by simpa using h3
    have hf:eC (av s 0)=false:=XR
    rw[Er (i:=0) (by omega) fun hc=>?_]
    rcases hc with hc | hc
    ·rw[(sZ _).2 hc] at hf;cases hf
    ·exact hc.1 rfl
   ·rw[aO] at h1 h2
    have XR:eC (bu s 0)=true:=by simpa using h3
    have hf:eC (av s 0)=true:=XR
    refine⟨by omega,1,by omega,by omega,fun j hj=>?_,rfl⟩
    obtain rfl:j=0:=by omega
    exact .inl ((sZ _).1 hf)
  ·intro k hk ss hI
   obtain rfl:k=0:=by omega
   obtain⟨h0,i,h1,hi,hj,rfl⟩:=hI
   rw[afG]
   refine⟨rfl,aq (fun h2=>?_) fun h2=>?_⟩
   ·rw[aO] at h2
    have cW:0≤(i:Int)∧(i:Int)<((len s:Nat):Int):=⟨by omega,by rw[aO];omega⟩
    have bad:¬mZ (av s i) i→V.int .i64 8=.int .i64 (aF s):=fun hn=>by rw[Er (by omega) hn]
    have cont:mZ (av s i) i→((¬(s.length=0∨s.length>16)∧XQ s 0 [.val (.str s),.val (.int .i64 (IntKind.i64.wrap ((i:Int)+1)))])∧
      (fun x1 x2:Nat=>x1<x2) (20-bF [.val (.str s),.val (.int .i64 (IntKind.i64.wrap ((i:Int)+1)))]) (20-bF [.val (.str s),.val (.int .i64 i)])):=fun hc=>by
     rw[i64_in ((i:Int)+1) (by omega)]
     refine⟨⟨h0,i+1,by omega,by omega,fun j gK=>?_,rfl⟩,?_⟩
     ·by_cases e:j=i
      ·rw[e];exact hc
      ·exact hj j (by omega)
     ·show 20-((i:Int)+1).toNat<20-(i:Int).toNat
      omega
    have eb:bu s i=av s i:=rfl
    rw[eb]
    unfold mZ at bad cont
    cases hl:eC (av s i) with
    | true=>
     have hl:=(sZ _).1 hl
     have c:=cont (by omega)
     exact⟨cW,c⟩
    | false=>
     have hl:¬(97≤av s i∧av s i≤122):=fun hh=>by rw[(sZ _).2 hh] at hl;cases hl
     refine⟨cW,cW,rfl,aq (fun h3=>⟨cW,rfl,aq (fun h4=>bad (by omega)) fun h4=>⟨cW,rfl,aq (fun h5=>bad (by omega)) fun h5=>cont (by omega)⟩⟩) fun h3=>cont (by omega)⟩
   ·rw[aO] at h2
    rw[Tp h0 fun j gK=>hj j (by omega)]
 ·exact h.elim
theorem HK:∀ {f:FuncId} {vs:List V} {σ:St} {k:ai},Ei f vs σ k→ag Tryz.prog f vs k σ:=fun h=>aD UK HJ h
end
end Go.Proofs.YtbajncpfmemdgaaGreatDoor
end
section
namespace Go.Ev
open Go
section
variable [Env] {P:Program} {σ:St}
structure bX (P:Program) (f:FuncId) (vs:List V) (Q:ai) (σ:St):Prop where
 ex:∃v τ,Q v τ
 h:∀(ρ:Ren) (w:World) (vs':List Value),R ρ σ w→aB ρ vs vs'→(callFunc f ⟨vs'⟩).run P w=.ok (.enter f ⟨vs'⟩) w∧
  CallsIn Fence.wide 0 P f ⟨vs'⟩ w fun e w'=>∃v τ ρ' v',Q v τ∧e=.returned v'∧au ρ' v v'∧kL 0 ρ σ w ρ' τ w'
theorem bX.code [iX P] {f:FuncId} {g:Func} {c:Code} {vs:List V} {Q:ai} (hf:P.funcs[f]? =some g) (hb:g.body=some c) (hn:(g.name== "runtime.NumGoroutine")=false)
  (h:bM P 0 c (sR P g Q) (oK g.ntmps vs) σ):bX P f vs Q σ:=by
 have zY:∀ {a:Act} {τ:St},(match a.defers with
   | []=>DR Q τ (fj P a τ g.results.toList)
   | _=>oR P (.leave g a) (mV Q) τ)→dA P (.leave g a) τ (mV Q):=fun h=>pD h
 refine⟨?_,fun ρ w vs' hr hv=>⟨pz hf hb hn _,callsIn_of_wp_marks hf hb trivial (wpIn_mono (h.h (Nat.zero_le _) ρ w _ hr (BJ hv g.ntmps)) fun e bf bq fS=>?_)⟩⟩
 ·obtain⟨e,a,τ,hx⟩:=h.ex
  have key:dA P (.leave g a) τ (mV Q)→∃v τ,Q v τ:=fun h=>by
   obtain⟨⟨o,τ⟩,hx⟩:=h.1
   cases o with
   | val v=>exact⟨v,τ,hx⟩
   | exit e a=>exact hx.elim
  cases e with
  | normal=>exact key (zY hx)
  | ret=>exact key (zY hx)
  | exit i=>exact hx.elim
  | goto i=>exact hx.elim
 ·obtain⟨e,b,σ',ρ',h1,rfl,h3,h4⟩:=fS
  have fin:dA P (.leave g b) σ' (mV Q)→LeavesInM Fence.wide 0 P g bf.tmps (fun e w'=>∃v τ ρ' v',Q v τ∧e=.returned v'∧au ρ' v v'∧kL 0 ρ σ w ρ' τ w') bf.defers .returning bq:=fun h=>
   LeavesInM.mono (dA.at h ρ' bq bf h4.r h3) fun e w' hx=>by
    obtain⟨v,τ,Dj,v',k1,k2,k3,k4⟩:=hx
    exact⟨v,τ,Dj,v',k1,k2,k3,h4.trans (kL.of (Nat.zero_le _) k4)⟩
  cases e with
  | normal=>exact fin (zY h1)
  | ret=>exact fin (zY h1)
  | exit i=>exact h1.elim
  | goto l=>exact h1.elim
theorem bc.gV [iX P] {f:FuncId} {g:Func} {call:FuncId→List V→St→ai→Prop} {vs:List V} {Q:ai} {live:Nat→List Nat} (F:bc P f g) (fp:∀ {f vs σ k},call f vs σ k→ag P f vs k σ) (N:Nat) (hN:aS (g.body.getD .skip)=N)
  {α:Type} {r:α→α→Prop} (wf:WellFounded r) (μ:Nat→List SV→α) (I:Nat→List SV→Prop) (hc:∀k ss,I k ss→∀s∈ss,s.clean)
  (vi:WE P f g call 0 live I Q vs σ)
  (mi:∀k,k<N→∀ss,I k ss→WL P f g call 0 live (fun k' ey=>I k' ey∧r (μ k' ey) (μ k ss)) Q k ss):
  bX P f vs Q σ:=by
 have hL:=e9.bV (fn:=f) (call:=call) (n₀:=0) (size:=g.ntmps) (live:=live) (Q:=sR P g Q) (fun h=>fp h) F.hp wf μ I hc fun k x hx ss hI=>by
  have hk:k<N:=by
   rw[←hN,←eI]
   exact(List.getElem?_eq_some_iff.1 hx).1
  have e:x=lp (g.body.getD .skip) k:=by unfold lp;rw[hx];rfl
  subst e
  exact mi k hk ss hI
 have hK:(KF P call 0 g.ntmps live I).Nu 0:=⟨⟨fun h=>fp h,fun h=>h⟩,fun h=>bM.of h⟩
 exact bX.code F.hf F.hb F.hn (bM.nH hK (g.body.getD .skip) (i:=0) (fun _ _ _ h=>h) (fun j z hz a τ dJ hA=>by
  rw[Nat.zero_add] at hA
  obtain⟨ey,g1,g3⟩:=sV (show mu 0 g.ntmps (live j) a τ _ from hA)
  obtain⟨m,hf⟩:=g3 (hc j ey g1)
  exact(hL j z hz ey g1).Xn hf) vi)
theorem bc.cd [iX P] {f:FuncId} {g:Func} {call:FuncId→List V→St→ai→Prop} {vs:List V} {Q:ai} {live:Nat→List Nat} (F:bc P f g) (fp:∀ {f vs σ k},call f vs σ k→ag P f vs k σ) (hN:aS (g.body.getD .skip)=0)
  (h:WE P f g call 0 live (fun _ _=>False) Q vs σ):bX P f vs Q σ:=
 F.gV fp 0 hN Nat.lt_wfRel.wf (fun _ _=>0) (fun _ _=>False) (fun _ _ h=>h.elim) h fun k hk=>absurd hk (Nat.not_lt_zero k)
theorem ag.frame {f:FuncId} {vs us:List V} {σ₀:St} {Q XS:ai} {m:Nat→Option Nat} (hm:∀i j c,m i=some c→m j=some c→i=j) (WX:∀i,σ₀.next≤i→m i=none)
  (hb:∀i k,σ₀.heap.get i=some k→∃c k',m i=some c∧σ.heap.get c=some k'∧fu m k k') (hv:e8 m us vs)
  (h:bX P f us XS σ₀) (hq:∀v τ,XS v τ→∃(m':Nat→Option Nat) (v':V) (σ':St),eW m' v' v∧σ.next≤σ'.next∧(∀i j c,m' i=some c→m' j=some c→i=j)∧(∀i,σ'.next≤i→m' i=none)∧(∀i,i<σ.next→m' i=none)∧
   (∀i k,σ'.heap.get i=some k→(σ.heap.get i=some k∧∀j k',σ₀.heap.get j=some k'→m j≠some i)∨∃c k',m' i=some c∧τ.heap.get c=some k'∧fu m' k k')∧Q v' σ'):ag P f vs Q σ:=by
 refine⟨⟨?_,?_⟩⟩
 ·obtain⟨v,τ,hx⟩:=h.ex
  obtain⟨_,v',σ',_,_,_,_,_,_,h3⟩:=hq v τ hx
  exact⟨(.val v',σ'),h3⟩
 ·intro ρ w vs' hr ij
  have CE:∀ {c},Wr (ρ.pull m) σ₀ c→Wr ρ σ c:=by
   rintro c ⟨i,k,l,h1,_,h3,h4⟩
   obtain⟨j,k',e1,e2,_⟩:=hb i k h1
   exact⟨j,k',l,e2,rfl,(Ren.dP e1).symm.trans h3,h4⟩
  have y5:R (ρ.pull m) σ₀ w:=by
   refine⟨fun i k hk=>?_,fun i j k k' l l' h1 h2 g1 g2 e=>?_,fun i hi=>?_,fun i l hl=>?_,fun c o x hx=>⟨(hr.aW c o x hx).1,fun hw=>(hr.aW c o x hx).2 (CE hw)⟩,hr.laid⟩
   ·obtain⟨c,k',e1,e2,e3⟩:=hb i k hk
    obtain⟨l,hl,cT⟩:=hr.di c k' e2
    exact⟨l,(Ren.dP e1).trans hl,e3.ok cT⟩
   ·obtain⟨c,q,e1,e2,_⟩:=hb i k h1
    obtain⟨d,q',Nt,Xm,_⟩:=hb j k' h2
    have:=hr.inj c d q q' l l' e2 Xm ((Ren.dP e1).symm.trans g1) ((Ren.dP Nt).symm.trans g2) e
    subst this
    exact hm i j c e1 Nt
   ·show(m i).bind ρ.at'=none
    rw[WX i hi];rfl
   ·obtain⟨c,_,hc⟩:=Ren.qp hl
    exact hr.valid c l hc
  obtain⟨g1,g2⟩:=h.h (ρ.pull m) w vs' y5 (hv.rel ij)
  refine⟨g1,g2.mono fun e w' hx=>?_⟩
  obtain⟨v,τ,ct,x,hx,rfl,pC,aH⟩:=hx
  obtain⟨m',v',σ',ov,hn,af7,XT,Qc,wy,h3⟩:=hq v τ hx
  let bC:Ren:=⟨fun i=>if i<σ.next then ρ i else(m' i).bind ct.at',ct.aW⟩
  have Ed:∀c o x,ρ.aW c o=some x→ct.aW c o=some x:=aH.aW
  have hold:∀c,c<w.heap.size→¬Wr (ρ.pull m) σ₀ c→w'.heap[c]? =w.heap[c]? :=aH.aV
  have bI:∀ {b l},ρ b=some l→b<σ.next:=fun {b l} hb=>by
   refine Nat.lt_of_not_le fun hle=>?_
   rw[hr.fresh b hle] at hb;cases hb
  have hle:ρ.le bC:=⟨fun b l hb=>by
   show(if b<σ.next then ρ b else _)=some l
   rw[if_pos (bI hb)];exact hb,Ed⟩
  have K9:(ct.pull m').le bC:=⟨fun b l hb=>by
   show(if b<σ.next then ρ b else(m' b).bind ct.at')=some l
   by_cases Tq:b<σ.next
   ·obtain⟨c,hc,_⟩:=Ren.qp hb
    rw[Qc b Tq] at hc;cases hc
   ·rw[if_neg Tq];exact hb,fun c o x h=>h⟩
  have CF:∀ {i k l},σ.heap.get i=some k→(∀j k',σ₀.heap.get j=some k'→m j≠some i)→ρ i=some l→¬Wr (ρ.pull m) σ₀ l.c:=by
   rintro i k l hk nU hl ⟨j,k',l',h1,_,h3,h4⟩
   obtain⟨c,q,e1,e2,_⟩:=hb j k' h1
   have hc:ρ c=some l':=(Ren.dP e1).symm.trans h3
   have:=hr.inj c i q k l' l e2 hk hc hl h4
   subst this
   exact nU j k' h1 e1
  have gn:∀ {i c l},m' i=some c→bC i=some l→ct c=some l∧σ.next≤i:=by
   intro i c l hi hl
   have je:¬i<σ.next:=fun bI=>by rw[Qc i bI] at hi;cases hi
   replace hl:(if i<σ.next then ρ i else(m' i).bind ct.at')=some l:=hl
   rw[if_neg je,hi] at hl
   exact⟨hl,by omega⟩
  have ab8:∀ {i c l},m' i=some c→ct c=some l→bC i=some l:=by
   intro i c l hi hl
   exact K9 i l ((Ren.dP hi).trans hl)
  have lU:∀ {i l},i<σ.next→bC i=some l→ρ i=some l:=by
   intro i l hi hl
   replace hl:(if i<σ.next then ρ i else(m' i).bind ct.at')=some l:=hl
   rw[if_pos hi] at hl;exact hl
  have Qd:∀ {i c k' l},m' i=some c→τ.heap.get c=some k'→bC i=some l→l.c<w.heap.size→Wr (ρ.pull m) σ₀ l.c:=by
   intro i c k' l hi hk hl bI
   exact aH.wr l.c bI ⟨c,k',l,hk,rfl,(gn hi hl).1,rfl⟩
  have rH:∀ {i k},σ.heap.get i=some k→∃l,ρ i=some l∧i<σ.next∧l.c<w.heap.size:=by
   intro i k hk
   obtain⟨l,hl,_⟩:=hr.di i k hk
   exact⟨l,hl,bI hl,hr.valid i l hl⟩
  have ab9:R bC σ' w':=by
   refine⟨fun i k hk=>?_,fun i j k k' l l' h1 h2 g1 g2 e=>?_,fun i hi=>?_,fun i l hl=>?_,fun c o x hx=>⟨(aH.r.aW c o x hx).1,?_⟩,aH.r.laid⟩
   ·rcases wy i k hk with ⟨h1,nU⟩ | ⟨c,k',h1,h2,h4⟩
    ·obtain⟨l,hl,cT⟩:=hr.di i k h1
     exact⟨l,hle i l hl,cT.same hle (hold l.c (hr.valid i l hl) (CF h1 nU hl))⟩
    ·obtain⟨l,hl,cT⟩:=aH.r.di c k' h2
     exact⟨l,ab8 h1 hl,cI.same (h4.ok cT) K9 rfl⟩
   ·rcases wy i k h1 with ⟨a1,Tr⟩ | ⟨c,q,a1,a2,_⟩<;>rcases wy j k' h2 with ⟨b1,no2⟩ | ⟨d,q',b1,b2,_⟩
    ·obtain⟨_,_,li,_⟩:=rH a1
     obtain⟨_,_,lj,_⟩:=rH b1
     exact hr.inj i j k k' l l' a1 b1 (lU li g1) (lU lj g2) e
    ·obtain⟨_,e1,li,lc⟩:=rH a1
     have gi:=lU li g1
     rw[gi] at e1;cases e1
     exact absurd (by rw[e];exact Qd b1 b2 g2 (by rw[←e];exact lc)) (CF a1 Tr gi)
    ·obtain⟨_,e1,lj,lc⟩:=rH b1
     have gj:=lU lj g2
     rw[gj] at e1;cases e1
     exact absurd (by rw[←e];exact Qd a1 a2 g1 (by rw[e];exact lc)) (CF b1 no2 gj)
    ·have:=aH.r.inj c d q q' l l' a2 b2 (gn a1 g1).1 (gn b1 g2).1 e
     subst this
     exact af7 i j c a1 b1
   ·show(if i<σ.next then ρ i else(m' i).bind ct.at')=none
    rw[if_neg (by omega),XT i hi];rfl
   ·by_cases hi:i<σ.next
    ·exact Nat.lt_of_lt_of_le (hr.valid i l (lU hi hl)) aH.size
    ·replace hl:(if i<σ.next then ρ i else(m' i).bind ct.at')=some l:=hl
     rw[if_neg hi] at hl
     obtain⟨c,_,hc⟩:=Ren.qp (ρ:=ct) (m:=m') hl
     exact aH.r.valid c l hc
   ·rintro⟨i,k,l,h1,_,hl,rfl⟩
    rcases wy i k h1 with ⟨a1,Tr⟩ | ⟨c,q,a1,a2,_⟩
    ·obtain⟨_,e1,li,lc⟩:=rH a1
     have gi:=lU li hl
     rw[gi] at e1;cases e1
     rcases aH.iG l.c o x hx with h5 | h5 | h5
     ·exact(hr.aW l.c o x h5).2 ⟨i,k,l,a1,rfl,gi,rfl⟩
     ·omega
     ·exact CF a1 Tr gi h5
    ·exact(aH.r.aW l.c o x hx).2 ⟨c,q,l,a2,rfl,(gn a1 hl).1,rfl⟩
  refine⟨v',σ',bC,x,h3,rfl,au.mono K9 (ov.rel pC),⟨ab9,hle,hn,fun b l hb=>?_,aH.size,aH.os,aH.tape,aH.output,fun c hc hnw=>hold c hc fun hw=>hnw (CE hw),fun c hc hw=>?_,fun b k hb=>?_,fun c o x hx=>?_⟩⟩
  ·by_cases Tq:b<σ.next
   ·exact .inl (lU Tq hb)
   ·exact .inr (.inl (by omega))
  ·obtain⟨i,k,l,h1,_,hl,rfl⟩:=hw
   rcases wy i k h1 with ⟨a1,Tr⟩ | ⟨c',q,a1,a2,_⟩
   ·obtain⟨_,_,li,_⟩:=rH a1
    exact⟨i,k,l,a1,rfl,lU li hl,rfl⟩
   ·exact CE (Qd a1 a2 hl hc)
  ·rcases wy b k hb with ⟨a1,_⟩ | ⟨c',q,a1,a2,_⟩
   ·exact .inl ⟨k,a1⟩
   ·refine .inr (.inl (Nat.le_of_not_lt fun bI=>?_))
    rw[Qc b bI] at a1;cases a1
  ·rcases aH.iG c o x hx with h5 | h5 | h5
   ·exact .inl h5
   ·exact .inr (.inl h5)
   ·exact .inr (.inr (CE h5))
omit [Env] in
theorem qv (σ:St) (id:Nat) (k:b9):(σ.new id k).next=max σ.next (id+1):=GJ _ _
def CG (esz:Nat) (v:V) (τ:St) (n:Nat) (g:Nat→V):Prop:=
 ∃b k,τ.heap.get b=some k∧∀(m:Nat→Option Nat) (i:Nat),m i=some b→eW m (.own i n esz) v∧fu m (.row n g esz false) k
def eS (esz:Nat) (A:Nat→(Nat→V)→Prop) (v:V) (τ:St):Prop:=∃n g,CG esz v τ n g∧A n g
theorem XU {esz:Nat} {A:Nat→(Nat→V)→Prop} {κ:St} {σ₀:St} {m:Nat→Option Nat} {k:ai} (u1:∀i k,κ.heap.get i=some k→σ.heap.get i=some k∧∀j k',σ₀.heap.get j=some k'→m j≠some i) (hn:κ.next=σ.next)
  (hk:∀n g,A n g→k (.own σ.next n esz) (κ.new σ.next (.row n g esz false))):∀v τ,eS esz A v τ→∃(m':Nat→Option Nat) (v':V) (σ':St),eW m' v' v∧σ.next≤σ'.next∧(∀i j c,m' i=some c→m' j=some c→i=j)∧(∀i,σ'.next≤i→m' i=none)∧(∀i,i<σ.next→m' i=none)∧
   (∀i k,σ'.heap.get i=some k→(σ.heap.get i=some k∧∀j k',σ₀.heap.get j=some k'→m j≠some i)∨∃c k',m' i=some c∧τ.heap.get c=some k'∧fu m' k k')∧k v' σ':=by
 rintro v τ ⟨n,g,⟨b,q,hb,hr⟩,hA⟩
 have hr:=hr (fun i=>if i=σ.next then some b else none) σ.next (if_pos rfl)
 refine⟨fun i=>if i=σ.next then some b else none,.own σ.next n esz,κ.new σ.next (.row n g esz false),hr.1,?_,fun i j c h1 h2=>?_,fun i hi=>?_,fun i hi=>if_neg (by omega),fun i k hi=>?_,hk n g hA⟩
 ·rw[qv];omega
 ·by_cases e1:i=σ.next
  ·by_cases e2:j=σ.next
   ·rw[e1,e2]
   ·simp only[if_neg e2] at h2;cases h2
  ·simp only[if_neg e1] at h1;cases h1
 ·rw[qv] at hi
  exact if_neg (by omega)
 ·rw[ia] at hi
  by_cases e:i=σ.next
  ·rw[if_pos e] at hi;cases hi
   exact .inr ⟨b,_,if_pos e,hb,hr.2⟩
  ·rw[if_neg e] at hi
   exact .inl (u1 i k hi)
end
end Go.Ev
end
section
namespace Go.Proofs.YtbajncpfmemdgaaGreatDoor
open Go Go.Ev
def qw (n:Nat) (f:Nat→V) (L:List UInt8):Prop:=n=L.length∧∀i,i<n→(f i).cells=[V.int .u8 (av L i)]
theorem jf {L:List UInt8} {i:Nat} (h:i<L.length):av L i=(L[i]:UInt8).toNat:=by
 unfold av
 rw[dG,List.getElem?_eq_getElem h]
theorem xj:∀L:List UInt8,ez (L.map fun c=>V.int .u8 c.toNat)=some L
 | []=>rfl
 | c::L=>by
  show(ez (L.map fun c=>V.int .u8 c.toNat)).map _=_
  rw[xj L]
  show some (UInt8.ofNat ((c.toNat:Nat):Int).toNat::L)=_
  rw[Int.toNat_natCast,UInt8.ofNat_toNat]
theorem ue:∀(es:List V) (us:List V),es.length=us.length→(∀(i:Nat) (v u:V),es[i]? =some v→us[i]? =some u→v.cells=[u])→aw es=us
 | [],[],_,_=>rfl
 | v::es,u::us,hl,h=>by
  rw[ca,h 0 v u rfl rfl,ue es us (by simpa using hl) fun i a b ha hb=>h (i+1) a b ha hb]
  rfl
theorem qw.cells {n:Nat} {f:Nat→V} {L:List UInt8} (h:qw n f L):aw (cj n f)=L.map fun c=>V.int .u8 c.toNat:=by
 refine ue _ _ (by rw[aY,List.length_map];exact h.1) fun i v u hv hu=>?_
 have hi:i<n:=by
  have:=(List.getElem?_eq_some_iff.1 hv).1
  rwa [aY] at this
 rw[dt hi] at hv
 cases hv
 rw[h.2 i hi]
 have hL:i<L.length:=by rw[←h.1];exact hi
 rw[List.getElem?_map,List.getElem?_eq_getElem hL] at hu
 cases hu
 rw[jf hL]
theorem qw.bytes {n:Nat} {f:Nat→V} {L:List UInt8} (h:qw n f L):ez (aw (cj n f))=some L:=by rw[h.cells,xj]
def byteOf (x:Int):UInt8:=UInt8.ofNat x.toNat
theorem vl {x:Int} (h0:0≤x) (h1:x<256):((byteOf x).toNat:Int)=x:=by
 unfold byteOf
 rw[UInt8.toNat_ofNat']
 omega
theorem qw.one {g:Nat→V} {x:Int} (h0:0≤x) (h1:x<256) (hg:(g 0).cells=[V.int .u8 x]):qw 1 g [byteOf x]:=
 ⟨rfl,fun i hi=>by
  obtain rfl:i=0:=by omega
  rw[hg,jf (by simp)]
  show _=[V.int .u8 ((byteOf x).toNat:Int)]
  rw[vl h0 h1]⟩
theorem o7 (n:Nat) (f g:Nat→V) (j:Nat):cw n f g j=if j<n then f j else g (j-n):=by
 have e:cw n f g j=Bool.rec (g (j-n)) (f j) (Nat.blt j n):=rfl
 rw[e]
 by_cases h:j<n
 ·rw[if_pos h,show Nat.blt j n=true from Nat.ble_eq_true_of_le h]
 ·rw[if_neg h]
  have:Nat.blt j n=false:=by
   cases hb:Nat.blt j n with
   | false=>rfl
   | true=>exact absurd (Nat.le_of_ble_eq_true hb) h
  rw[this]
theorem s6 {L M:List UInt8} {i:Nat} (h:i<L.length):av (L++M) i=av L i:=by
 rw[jf (by rw[List.length_append];omega),jf h,List.getElem_append_left h]
theorem xk {L M:List UInt8} {i:Nat} (h:L.length≤i) (h2:i<L.length+M.length):av (L++M) i=av M (i-L.length):=by
 rw[jf (by rw[List.length_append];omega),jf (by omega),List.getElem_append_right h]
theorem qw.append {n m:Nat} {f g:Nat→V} {L M:List UInt8} (h:qw n f L) (k:qw m g M):qw (n+m) (cw n f g) (L++M):=by
 refine⟨by rw[List.length_append,h.1,k.1],fun i hi=>?_⟩
 have hl:=h.1
 have km:=k.1
 rw[o7]
 by_cases cW:i<n
 ·rw[if_pos cW,h.2 i cW,s6 (by omega)]
 ·rw[if_neg cW,k.2 (i-n) (by omega),xk (by omega) (by omega),←hl]
theorem qw.af8 {v:V} {x:Int} (h0:0≤x) (h1:x<256) (hv:v.cells=[V.int .u8 x]):qw 1 (jK [v]) [byteOf x]:=.one h0 h1 hv
theorem Qe (x:Int):0≤IntKind.u8.wrap x∧IntKind.u8.wrap x<256:=by
 have:IntKind.u8.wrap x=x%256:=rfl
 omega
end Go.Proofs.YtbajncpfmemdgaaGreatDoor
end
section
namespace Go.Proofs.YtbajncpfmemdgaaGreatDoor
open Go Go.Ev Go.IntWalk
section
variable [Env] {vs:List V} {σ:St} {k:ai}
theorem o9 {n:Nat} {h:Nat→List UInt8} {l:List SV} (hl:∀u∈l,u.clean):∀u∈SV.val (V.arr n (fun i=>V.str (h i)) 1 false false)::l,u.clean:=ax (lT n h) hl
def af9 (s:List UInt8) (n:Nat) (q:Nat→List UInt8):Nat→List SV→Prop
 | 0,ss=>∃i:Nat,i≤n∧ss=[.val (.str s),.val (.int .i64 (kM s q i)),.val (V.arr n (fun i=>V.str (q i)) 1 false false),.val (.int .i64 ((n:Nat):Int)),.val (.int .i64 i)]
 | _,_=>False
theorem UL (h:PY vs σ k):ag Tryz.prog 222 vs k σ:=by
 unfold PY at h
 split at h
 ·rename_i s n f
  obtain⟨q,rfl,hn,h⟩:=h
  refine ag.cb (ar (Go.Ev.Clean.str _) (ar (lT n q) aG)) (.int _ _) ?_ h
  refine F222.bV (live:=Ak) (call:=Ei) (n₀:=0) (σ:=Go.Ev.start) (fun h=>HK h) rfl 1 (by kernel_rfl) Nat.lt_wfRel.wf (fun _ ss=>n-bF ss) (af9 s n q) ?_ ?_ ?_
  ·intro k ss hI
   cases k with
   | zero=>obtain⟨i,_,rfl⟩:=hI;exact gv (ay (o9 (ay (ay bg))))
   | succ k=>exact hI.elim
  ·rw[afH]
   exact⟨0,by omega,rfl⟩
  ·intro k hk ss hI
   obtain rfl:k=0:=by omega
   obtain⟨i,hi,rfl⟩:=hI
   have hc:=Aw s q i
   rw[afI]
   refine⟨rfl,aq (fun h1=>⟨⟨by omega,by omega⟩,aq (fun h2=>?_) fun h2=>?_⟩) fun h1=>?_⟩
   ·rw[cA] at h2
    rw[i64_in ((i:Int)+1) (by omega),i64_in (kM s q i+1) (by omega)]
    refine⟨⟨i+1,by omega,?_⟩,?_⟩
    ·show _=[_,SV.val (.int .i64 (kM s q i+if q i=s then 1 else 0)),_,_,_]
     rw[if_pos h2];rfl
    ·show n-((i:Int)+1).toNat<n-(i:Int).toNat
     omega
   ·rw[cA] at h2
    rw[i64_in ((i:Int)+1) (by omega)]
    refine⟨⟨i+1,by omega,?_⟩,?_⟩
    ·show _=[_,SV.val (.int .i64 (kM s q i+if q i=s then 1 else 0)),_,_,_]
     rw[if_neg h2,Int.add_zero];rfl
    ·show n-((i:Int)+1).toNat<n-(i:Int).toNat
     omega
   ·obtain rfl:i=n:=by omega
    rfl
 ·exact h.elim
theorem HL:∀ {f:FuncId} {vs:List V} {σ:St} {k:ai},Ej f vs σ k→ag Tryz.prog f vs k σ:=fun h=>aD UL HK h
def aga (n:Nat) (q:Nat→List UInt8):Nat→List SV→Prop
 | 0,ss=>∃i:Nat,i≤n∧(∀j,j<i→kM (q j) q n≤1)∧ss=[.val (V.arr n (fun i=>V.str (q i)) 1 false false),.val (V.arr n (fun i=>V.str (q i)) 1 false false),.val (.int .i64 ((n:Nat):Int)),.val (.int .i64 i)]
 | _,_=>False
theorem UM (h:PZ vs σ k):ag Tryz.prog 178 vs k σ:=by
 unfold PZ at h
 split at h
 ·rename_i n f
  obtain⟨q,rfl,hn,h⟩:=h
  refine ag.cb (ar (lT n q) aG) (.bool _) ?_ h
  refine F178.bV (live:=Al) (call:=Ej) (n₀:=0) (σ:=Go.Ev.start) (fun h=>HL h) rfl 1 (by kernel_rfl) Nat.lt_wfRel.wf (fun _ ss=>n-bF ss) (aga n q) ?_ ?_ ?_
  ·intro k ss hI
   cases k with
   | zero=>obtain⟨i,_,_,rfl⟩:=hI;exact o9 (o9 (ay (ay bg)))
   | succ k=>exact hI.elim
  ·rw[afJ]
   exact⟨0,by omega,fun j hj=>absurd hj (Nat.not_lt_zero j),rfl⟩
  ·intro k hk ss hI
   obtain rfl:k=0:=by omega
   obtain⟨i,hi,hj,rfl⟩:=hI
   rw[afK]
   refine⟨rfl,aq (fun h1=>⟨⟨by omega,by omega⟩,q,rfl,hn,rfl,aq (fun h2=>?_) fun h2=>?_⟩) fun h1=>?_⟩
   ·rw[cA] at h2
    have:fU q n=false:=by
     cases hu:fU q n with
     | false=>rfl
     | true=>
      obtain⟨a,b,xb,hb,e1,e2⟩:=(xM (q i) q n).1 h2
      exact absurd (e1.trans e2.symm) ((nY q n).1 hu a b xb hb)
    rw[this]
   ·rw[cA] at h2
    rw[i64_in ((i:Int)+1) (by omega)]
    refine⟨⟨i+1,by omega,fun j gK=>?_,rfl⟩,?_⟩
    ·by_cases e:j=i
     ·rw[e];omega
     ·exact hj j (by omega)
    ·show n-((i:Int)+1).toNat<n-(i:Int).toNat
     omega
   ·obtain rfl:i=n:=by omega
    have:fU q i=true:=(nY q i).2 fun a b xb hb e=>by
     have:=hj b hb
     have:=(xM (q b) q i).2 ⟨a,b,xb,hb,e,rfl⟩
     omega
    rw[this]
 ·exact h.elim
theorem HM:∀ {f:FuncId} {vs:List V} {σ:St} {k:ai},Ek f vs σ k→ag Tryz.prog f vs k σ:=fun h=>aD UM HL h
def I42 (s:List UInt8) (n:Nat) (q:Nat→List UInt8):Nat→List SV→Prop
 | 0,ss=>∃i:Nat,i≤n∧(∀j,j<i→q j≠s)∧ss=[.val (V.arr n (fun i=>V.str (q i)) 1 false false),.val (.str s),.val (.int .i64 i)]
 | _,_=>False
theorem XV (h:XD vs σ k):ag Tryz.prog 42 vs k σ:=by
 unfold XD at h
 split at h
 ·rename_i n f s
  obtain⟨q,rfl,hn,h⟩:=h
  refine ag.cb (ar (lT n q) (ar (Go.Ev.Clean.str _) aG)) (.int _ _) ?_ h
  refine F42.bV (live:=El) (call:=Ek) (n₀:=0) (σ:=Go.Ev.start) (fun h=>HM h) rfl 1 (by kernel_rfl) Nat.lt_wfRel.wf (fun _ ss=>n-bF ss) (I42 s n q) ?_ ?_ ?_
  ·intro k ss hI
   cases k with
   | zero=>obtain⟨i,_,_,rfl⟩:=hI;exact o9 (gv (ay bg))
   | succ k=>exact hI.elim
  ·rw[e42]
   exact⟨0,by omega,fun j hj=>absurd hj (Nat.not_lt_zero j),rfl⟩
  ·intro k hk ss hI
   obtain rfl:k=0:=by omega
   obtain⟨i,hi,hj,rfl⟩:=hI
   rw[r42]
   refine⟨rfl,aq (fun h1=>⟨⟨by omega,by omega⟩,aq (fun h2=>?_) fun h2=>?_⟩) fun h1=>?_⟩
   ·rw[cA] at h2
    rw[kD s q n i (by omega) h2 hj]
   ·rw[cA] at h2
    rw[i64_in ((i:Int)+1) (by omega)]
    refine⟨⟨i+1,by omega,fun j gK=>?_,rfl⟩,?_⟩
    ·by_cases e:j=i
     ·rw[e];exact h2
     ·exact hj j (by omega)
    ·show n-((i:Int)+1).toNat<n-(i:Int).toNat
     omega
   ·obtain rfl:i=n:=by omega
    rw[iA s q i hj]
 ·exact h.elim
theorem HN:∀ {f:FuncId} {vs:List V} {σ:St} {k:ai},Em f vs σ k→ag Tryz.prog f vs k σ:=fun h=>aD XV HM h
def agb (n:Nat) (q:Nat→List UInt8):Nat→List SV→Prop
 | 0,ss=>∃i:Nat,i≤n∧(∀a b,a<b→b<i→q a≠q b)∧ss=[.val (V.arr n (fun i=>V.str (q i)) 1 false false),.val (.int .i64 i)]
 | _,_=>False
theorem UN (h:P0 vs σ k):ag Tryz.prog 108 vs k σ:=by
 unfold P0 at h
 split at h
 ·rename_i n f
  obtain⟨q,rfl,hn,h⟩:=h
  refine ag.cb (ar (lT n q) aG) (.bool _) ?_ h
  refine F108.bV (live:=Am) (call:=Em) (n₀:=0) (σ:=Go.Ev.start) (fun h=>HN h) rfl 1 (by kernel_rfl) Nat.lt_wfRel.wf (fun _ ss=>n-bF ss) (agb n q) ?_ ?_ ?_
  ·intro k ss hI
   cases k with
   | zero=>obtain⟨i,_,_,rfl⟩:=hI;exact o9 (ay bg)
   | succ k=>exact hI.elim
  ·rw[afL]
   exact⟨0,by omega,fun a b _ hb=>absurd hb (Nat.not_lt_zero b),rfl⟩
  ·intro k hk ss hI
   obtain rfl:k=0:=by omega
   obtain⟨i,hi,hj,rfl⟩:=hI
   rw[afM]
   refine⟨rfl,aq (fun h1=>⟨⟨by omega,by omega⟩,q,rfl,hn,rfl,aq (fun h2=>?_) fun h2=>?_⟩) fun h1=>?_⟩
   ·rw[cA] at h2
    have:fU q n=false:=by
     cases hu:fU q n with
     | false=>rfl
     | true=>
      rcases jJ (q i) q n with ⟨_,h3⟩ | ⟨m,hm,WI,e,hl⟩
      ·exact absurd rfl (h3 i (by omega))
      ·rw[hm] at h2
       have bN:m≠i:=fun e=>h2 (by rw[e])
       rcases Nat.lt_or_gt_of_ne bN with bI | NV
       ·exact absurd e ((nY q n).1 hu m i bI (by omega))
       ·exact absurd rfl (hl i NV)
    rw[this]
   ·rw[cA] at h2
    rw[i64_in ((i:Int)+1) (by omega)]
    refine⟨⟨i+1,by omega,fun a b xb hb=>?_,rfl⟩,?_⟩
    ·by_cases e:b=i
     ·subst e
      intro hq
      rcases jJ (q b) q n with ⟨_,h3⟩ | ⟨m,hm,WI,e,hl⟩
      ·exact absurd rfl (h3 b (by omega))
      ·have:bT (q b) q n=b:=Decidable.not_not.1 h2
       rw[hm] at this
       obtain rfl:m=b:=by omega
       exact absurd hq (hl a xb)
     ·exact hj a b xb (by omega)
    ·show n-((i:Int)+1).toNat<n-(i:Int).toNat
     omega
   ·obtain rfl:i=n:=by omega
    rw[(nY q i).2 hj]
 ·exact h.elim
theorem HO:∀ {f:FuncId} {vs:List V} {σ:St} {k:ai},En f vs σ k→ag Tryz.prog f vs k σ:=fun h=>aD UN HN h
end
end Go.Proofs.YtbajncpfmemdgaaGreatDoor
end
