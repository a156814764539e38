/- Proved: parts of the way: BP3, BP4, BP5, BP6, Frame, Byt. -/
import Derived.Test.YtbajncpfmemdgaaGreatDoorEvQ15
import Derived.Test.YtbajncpfmemdgaaGreatDoorEvQ14
section
namespace Go.Proofs.YtbajncpfmemdgaaGreatDoor
open Go Go.Ev Go.IntWalk
section
variable [Env] {vs:List V} {σ:St} {k:ah}
def Pw (i q:Int):Prop:=(i=1∧q=1)∨(i=2∧q=64)∨(i=3∧q=4096)∨(i=4∧q=262144)
def agp (s:List UInt8):Nat→List SV→Prop
 | 0,ss=>∃(i q:Int),s.length≠0∧c8 (aw s 0)≠0∧Pw i q∧i≤c8 (aw s 0)∧ss=[.val (.str s),.val (.int .i64 (c8 (aw s 0))),.val (.int .i64 (ez (aw s 0))),.val (.int .i64 q),.val (.int .i64 i)]
 | 1,ss=>∃(r q lo hi:Int) (i:Nat),s.length≠0∧eS (aw s 0)=c8 (aw s 0)∧1≤i∧(i:Int)≤c8 (aw s 0)∧Rg (aw s 0) (c8 (aw s 0)) i r q∧(i=1→lo=kr (aw s 0)∧hi=ku (aw s 0))∧(i≠1→lo=128∧hi=191)∧
   j2 s (kr (aw s 0)) (ku (aw s 0)) ((eS (aw s 0)).toNat-1) 1=j2 s lo hi ((eS (aw s 0)).toNat-i) i∧ss=[.val (.str s),.val (.int .i64 (c8 (aw s 0))),.val (.int .i64 r),.val (.int .i64 q),.val (.int .i64 i)]
 | _,_=>False
omit [Env] in
theorem zF (c:Int):0≤c8 c∧c8 c≤4:=by unfold c8;(repeat' split)<;>omega
omit [Env] in
theorem agq (c:Int):(128≤kr c∧ku c≤191)∨eS c=0∨eS c=1:=by unfold kr ku eS;(repeat' split)<;>omega
theorem Vh (h:Qp vs σ k):ag Tryz.prog 263 vs k σ:=by
 unfold Qp at h
 split at h
 ·rename_i s
  refine ag.bc (A:=rk s) (av (Go.Ev.Clean.str _) aM) (rk.gK s)
   (F263.cf (live:=wV) (call:=HY) (n₀:=0) (σ:=Go.Ev.start) (fun h=>OB h) rfl 2 (by kernel_rfl) Nat.lt_wfRel.wf (fun k ss=>(if k=0 then 10 else 5)-cb ss) (agp s) ?_ ?_ ?_) fun v hv=>by
    rcases hv with ⟨h0,r,rfl⟩ | ⟨h0,e,he,rfl⟩
    ·exact h.1 h0 r
    ·exact h.2 h0 e he
  ·intro k ss hI
   match k,hI with
   | 0,hI=>obtain⟨i,q,_,_,_,_,rfl⟩:=hI;exact gD (aG (aG (aG (aG bG))))
   | 1,hI=>obtain⟨r,q,lo,hi,i,_,_,_,_,_,_,_,_,rfl⟩:=hI;exact gD (aG (aG (aG (aG bG))))
  ·rw[afN]
   have hb:=iP s 0
   refine⟨rfl,aq (fun h0=>.bad ?_ (by decide)) fun h0=>?_⟩
   ·rw[aP] at h0
    unfold cK;rw[if_pos (by omega)]
   ·rw[aP] at h0
    have hl:s.length≠0:=by omega
    have e:IntKind.i64.wrap (bF s 0)=aw s 0:=i64_in _ (by show _≤aw s 0∧aw s 0≤_;omega)
    rw[e]
    refine⟨⟨by decide,by rw[aP];omega⟩,rfl,aq (fun h1=>.bad ?_ (by decide)) fun h1=>⟨1,1,hl,h1,.inl ⟨rfl,rfl⟩,?_,rfl⟩⟩
    ·rw[ky hl]
     rcases v3 _ hb with h | h | h | h | h
     ·omega
     ·omega
     ·omega
     ·omega
     ·rw[h.2];split<;>rfl
    ·have:=zF (aw s 0);omega
  ·intro k hk ss hI
   have hb:=iP s 0
   have hlr:=zF (aw s 0)
   match k,hk,hI with
   | 0,_,hI=>
    obtain⟨i,q,hl,h0,hp,hi,rfl⟩:=hI
    rw[acF]
    refine⟨rfl,aq (fun h1=>?_) fun h1=>?_⟩
    ·have hq:1≤q∧q≤262144∧1≤i∧i≤4:=by unfold Pw at hp;omega
     rw[i64_in (q*64) (by omega),i64_in (i+1) (by omega)]
     refine⟨⟨i+1,q*64,hl,h0,?_,by omega,rfl⟩,?_⟩
     ·unfold Pw at hp⊢;omega
     ·show 10-(i+1).toNat<10-i.toNat
      omega
    ·have eW:i=c8 (aw s 0):=by omega
     have hq:(c8 (aw s 0)=1∧q=1)∨(c8 (aw s 0)=2∧q=64)∨(c8 (aw s 0)=3∧q=4096)∨(c8 (aw s 0)=4∧q=262144):=by rw[←eW];exact hp
     obtain⟨⟨f1,f2,f3,f4⟩,f5,f6⟩:=QT hb h0 hq
     rw[i64_in (ez (aw s 0)*q) (by omega),i64_in (ez (aw s 0)*q+q) (by omega),i64_in (ez (aw s 0)*q+q-1) (by omega)]
     refine aa.mk (fun hf=>.bad ?_ (by decide)) fun ht=>?_
     ·have hf:fk (ez (aw s 0)*q) (ez (aw s 0)*q+q-1) (c8 (aw s 0))=false:=by simpa using hf
      rw[ky hl,f6 hf];split<;>rfl
     ·have ht:fk (ez (aw s 0)*q) (ez (aw s 0)*q+q-1) (c8 (aw s 0))=true:=by simpa using ht
      obtain⟨g1,g2⟩:=f5 ht
      refine⟨⟨_,_,kr (aw s 0),ku (aw s 0),1,hl,g1,by omega,by omega,g2,fun _=>⟨rfl,rfl⟩,fun h=>absurd rfl h,rfl,rfl⟩,?_⟩
      show 5-1<10-i.toNat
      omega
   | 1,_,hI=>
    obtain⟨r,q,lo,hi,i,hl,hu,h1,h2,hg,Oz,oK,hc,rfl⟩:=hI
    have hw:=qO (aw s 0)
    rw[acG]
    refine⟨rfl,aq (fun h3=>?_) fun h3=>?_⟩
    ·obtain⟨m,hm⟩:∃m,(eS (aw s 0)).toNat-i=m+1:=⟨(eS (aw s 0)).toNat-i-1,by omega⟩
     rw[hm,tC] at hc
     have bad:¬(i<s.length∧lo≤aw s i∧aw s i≤hi)→cK s=0:=fun hn=>by
      rw[ky hl,hc,decide_eq_false hn,Bool.false_and,if_neg (by simp)]
     have cW:128≤lo∧hi≤191:=by
      by_cases e:i=1
      ·obtain⟨rfl,rfl⟩:=Oz e
       rcases agq (aw s 0) with h | h | h<;>omega
      ·obtain⟨rfl,rfl⟩:=oK e
       omega
     refine⟨rfl,aq (fun h4=>.bad (bad fun hh=>?_) (by decide)) fun h4=>?_⟩
     ·rw[aP] at h4;omega
     ·rw[aP] at h4
      have hbi:=iP s i
      have e:IntKind.i64.wrap (bF s i)=aw s i:=i64_in _ (by show _≤aw s i∧aw s i≤_;omega)
      rw[e]
      refine⟨⟨by omega,by rw[aP];omega⟩,rfl,aq (fun h5=>.bad (bad fun hh=>?_) (by decide)) fun h5=>⟨rfl,aq (fun h6=>.bad (bad fun hh=>?_) (by decide)) fun h6=>⟨⟨rfl,by decide⟩,?_⟩⟩⟩
      ·omega
      ·omega
      ·obtain⟨q',s0,s1,s2,s3,s4,s5⟩:=Ve (b:=aw s i) hb hu rfl hg h3 ⟨by omega,by omega⟩
       rw[s0,i64_in (r*64) (by omega),i64_in (r*64+aw s i) (by omega),i64_in (r*64+aw s i-128) (by omega),i64_in q' (by omega),i64_in ((r*64+aw s i-128)*q') (by omega),
        i64_in ((r*64+aw s i-128)*q'+q') (by omega),i64_in ((r*64+aw s i-128)*q'+q'-1) (by omega),i64_in ((i:Int)+1) (by omega)]
       refine aa.mk (fun hf=>.bad (bad fun hh=>?_) (by decide)) fun ht=>?_
       ·have hf:fk ((r*64+aw s i-128)*q') ((r*64+aw s i-128)*q'+q'-1) (c8 (aw s 0))=false:=by simpa using hf
        rw[Bool.eq_false_iff,ne_eq,s4] at hf
        refine hf fun e=>?_
        obtain⟨rfl,rfl⟩:=Oz (by omega)
        exact hh.2
       ·have ht:fk ((r*64+aw s i-128)*q') ((r*64+aw s i-128)*q'+q'-1) (c8 (aw s 0))=true:=by simpa using ht
        have agr:i<s.length∧lo≤aw s i∧aw s i≤hi:=by
         refine⟨by omega,?_⟩
         by_cases e:i=1
         ·obtain⟨rfl,rfl⟩:=Oz e
          exact s4.1 ht (by omega)
         ·obtain⟨rfl,rfl⟩:=oK e
          omega
        have fu:j2 s (kr (aw s 0)) (ku (aw s 0)) ((eS (aw s 0)).toNat-1) 1=j2 s 128 191 ((eS (aw s 0)).toNat-(i+1)) (i+1):=by
         rw[hc,decide_eq_true agr,Bool.true_and,show(eS (aw s 0)).toNat-(i+1)=m by omega]
        refine⟨⟨_,_,128,191,i+1,hl,hu,by omega,by omega,s5 ht,fun h=>by omega,fun _=>⟨rfl,rfl⟩,fu,rfl⟩,?_⟩
        show 5-((i:Int)+1).toNat<5-(i:Int).toNat
        omega
    ·refine .A6 ?_ (by omega)
     rw[ky hl,hc,show(eS (aw s 0)).toNat-i=0 by omega]
     exact hu
 ·exact h.elim
theorem OC:∀ {f:FuncId} {vs:List V} {σ:St} {k:ah},On f vs σ k→ag Tryz.prog f vs k σ:=fun h=>aH Vh OB h
def ags (s:List UInt8):Nat→List SV→Prop
 | 0,ss=>∃(i:Int) (j:Nat),0≤i∧i≤j∧j≤s.length∧dZ s.length s=dZ (s.drop j).length (s.drop j)∧ss=[.val (.str s),.val (.int .i64 i),.val (.int .i64 j)]
 | _,_=>False
theorem Vi (h:Qq vs σ k):ag Tryz.prog 238 vs k σ:=by
 unfold Qq at h
 split at h
 ·rename_i s
  obtain⟨hs,h⟩:=h
  refine ag.bc (A:=Yy s) (av (Go.Ev.Clean.str _) aM) (fun v hv=>by obtain⟨c,_,rfl⟩:=hv;exact .int _ _)
   (F238.cf (live:=AU) (call:=On) (n₀:=0) (σ:=Go.Ev.start) (fun h=>OC h) rfl 1 (by kernel_rfl) Nat.lt_wfRel.wf (fun _ ss=>65-cb ss) (ags s) ?_ ?_ ?_) fun v hv=>by obtain⟨c,hc,rfl⟩:=hv;exact h c hc
  ·intro k ss hI
   cases k with
   | zero=>obtain⟨i,j,_,_,_,_,rfl⟩:=hI;exact gD (aG (aG bG))
   | succ k=>exact hI.elim
  ·rw[E4]
   exact⟨0,0,by omega,by omega,by omega,rfl,rfl⟩
  ·intro k hk ss hI
   obtain rfl:k=0:=by omega
   obtain⟨i,j,h0,h1,h2,he,rfl⟩:=hI
   have hd:c9 ((j:Nat):Int).toNat (cU s ((len s:Nat):Int).toNat)=s.drop j:=by
    rw[er,dW,aP,Int.toNat_natCast,Int.toNat_natCast,List.take_length]
   rw[afO,hd]
   have hn:=tD (s.drop j)
   have hdl:(s.drop j).length=s.length-j:=List.length_drop
   refine⟨rfl,aq (fun h3=>?_) fun h3=>?_⟩
   ·rw[aP] at h3
    refine⟨⟨by omega,by rw[aP];omega,by omega⟩,fun bS r=>⟨rfl,?_⟩,fun hz e bS=>⟨rfl,aq (fun _=>?_) fun hh=>absurd bS hh⟩⟩
    ·obtain⟨w,hw⟩:∃w:Nat,cK (s.drop j)=w:=⟨(cK (s.drop j)).toNat,by omega⟩
     rw[hw] at hn bS⊢
     rw[i64_in (i+1) (by omega),i64_in ((j:Int)+w) (by omega)]
     refine⟨⟨i+1,j+w,by omega,by omega,by omega,?_,rfl⟩,?_⟩
     ·have:=Cv (s:=s.drop j) (by omega) (by rw[hw];exact bS)
      rw[he,this,hw,Int.toNat_natCast,List.drop_drop]
     ·show 65-((j:Int)+w).toNat<65-(j:Int).toNat
      omega
    ·refine⟨-1,⟨fun h=>by omega,fun h=>?_⟩,rfl⟩
     rw[he,Cu (Nat.le_refl _) (by omega) hz] at h;cases h
   ·rw[aP] at h3
    have:s.drop j=[]:=List.eq_nil_of_length_eq_zero (by omega)
    exact⟨i,⟨fun _=>by rw[he,this];rfl,fun _=>h0⟩,rfl⟩
 ·exact h.elim
theorem OD:∀ {f:FuncId} {vs:List V} {σ:St} {k:ah},TZ f vs σ k→ag Tryz.prog f vs k σ:=fun h=>aH Vi OC h
theorem Vj (h:Qr vs σ k):ag Tryz.prog 203 vs k σ:=by
 unfold Qr at h
 split at h
 ·rename_i s
  obtain⟨hs,h⟩:=h
  refine ag.cj (av (Go.Ev.Clean.str _) aM) (.bool _) (F203.flat (live:=HZ) (call:=TZ) (n₀:=0) (σ:=Go.Ev.start) (fun h=>OD h) rfl (by kernel_rfl) ?_) h
  rw[afP]
  refine⟨hs,fun c hc=>⟨rfl,aq (fun h1=>?_) fun h1=>?_⟩⟩
  ·rw[hc.1 h1]
  ·have:dZ s.length s=false:=by
    cases hb:dZ s.length s with
    | false=>rfl
    | true=>exact absurd (hc.2 hb) h1
   rw[this]
 ·exact h.elim
theorem OE:∀ {f:FuncId} {vs:List V} {σ:St} {k:ah},T0 f vs σ k→ag Tryz.prog f vs k σ:=fun h=>aH Vj OD h
end
end Go.Proofs.YtbajncpfmemdgaaGreatDoor
end
section
namespace Go.Proofs.YtbajncpfmemdgaaGreatDoor
open Go Go.Ev Go.IntWalk
theorem F194:bl Tryz.prog 194 Tryz.f194:=.of (by kernel_rfl) (by kernel_rfl)
theorem F261:bl Tryz.prog 261 Tryz.f261:=.of (by kernel_rfl) (by kernel_rfl)
theorem F262:bl Tryz.prog 262 Tryz.f262:=.of (by kernel_rfl) (by kernel_rfl)
theorem F237:bl Tryz.prog 237 Tryz.f237:=.of (by kernel_rfl) (by kernel_rfl)
theorem F202:bl Tryz.prog 202 Tryz.f202:=.of (by kernel_rfl) (by kernel_rfl)
theorem wrap_u64 (n:Int):IntKind.u64.wrap n=n%18446744073709551616:=by
 unfold IntKind.wrap
 show(if (false&&_)=true then _ else _)=_
 rfl
theorem T6 (y:Int) (n:Nat) (m:Int) (hm:(m%(2^64:Nat)).toNat=2^n-1) (hn:n≤63) (hy:0≤y∧y<18446744073709551616):IntKind.u64.wrap (BitVec.ofInt IntKind.u64.bits y&&& BitVec.ofInt IntKind.u64.bits m).toNat=y%(2^n:Nat):=by
 have h1:(BitVec.ofInt IntKind.u64.bits y&&& BitVec.ofInt IntKind.u64.bits m).toNat=y.toNat%2^n:=by
  have e:IntKind.u64.bits=64:=rfl
  rw[BitVec.toNat_and,BitVec.toNat_ofInt,BitVec.toNat_ofInt]
  show(y%(2^64:Nat)).toNat&&& (m%(2^64:Nat)).toNat=_
  rw[hm,Nat.and_two_pow_sub_one_eq_mod]
  congr 2
  exact Int.emod_eq_of_lt hy.1 hy.2
 have bE:y.toNat%2^n<2^63:=Nat.lt_of_lt_of_le (Nat.mod_lt _ (Nat.pow_pos (by decide))) (Nat.pow_le_pow_right (by decide) hn)
 rw[h1,wrap_u64,Int.emod_eq_of_lt (by omega) (by have:(2:Nat)^63=9223372036854775808:=rfl;omega),Int.natCast_emod]
 congr 1
 exact Int.toNat_of_nonneg hy.1
theorem LO (x:Nat):(FloatKind.f64.format.order x x != some .eq)=decide (9218868437227405312<x%9223372036854775808):=by
 show((Ieee.double.read x).order (Ieee.double.read x) != some .eq)=_
 have h1:Ieee.double.signWeight=9223372036854775808:=by decide
 have h2:Ieee.double.binade=4503599627370496:=by decide
 have h3:Ieee.double.infRung=9218868437227405312:=by decide
 have num:∀(s:Bool) (m:Nat) (i:Int),((Ieee.Datum.number s m i).order (.number s m i) != some .eq)=false:=by
  intro s m i
  show(some (compare _ _) != some .eq)=false
  rw[show ∀a:Int,compare a a=.eq from fun a=>by simp [compare,compareOfLessAndEq]]
  rfl
 unfold Ieee.Format.read
 rw[h1,h2,h3]
 dsimp only
 split
 ·rw[num,decide_eq_false (by omega)]
 ·split
  ·rw[num,decide_eq_false (by omega)]
  ·split
   ·rw[decide_eq_false (by omega)]
    show(some (compare _ _) != some .eq)=false
    rw[show ∀a:Nat,compare a a=.eq from fun a=>by simp [compare,compareOfLessAndEq]]
    rfl
   ·rw[decide_eq_true (by omega)];rfl
theorem Ig (x:Int) (h:0≤x∧x<18446744073709551616):AQ x↔9218868437227405312<x.toNat%9223372036854775808:=by
 unfold AQ eg gu
 omega
section
variable [Env] {vs:List V} {σ:St} {k:ah}
theorem Vk (h:Qs vs σ k):ag Tryz.prog 194 vs k σ:=by
 unfold Qs at h
 split at h
 ·rename_i x
  obtain⟨hx,h⟩:=h
  refine ag.cj (av (Go.Ev.Clean.int _ _) aM) (.int _ _) (F194.flat (live:=H0) (call:=T0) (n₀:=0) (σ:=Go.Ev.start) (fun h=>OE h) rfl (by kernel_rfl) ?_) h
  rw[afQ,LO]
  unfold fQ
  refine aq (fun h1=>?_) fun h1=>?_
  ·rw[if_pos ((Ig x hx).2 h1)]
  ·rw[if_neg fun hh=>h1 ((Ig x hx).1 hh)]
 ·exact h.elim
theorem Ih:∀ {f:FuncId} {vs:List V} {σ:St} {k:ah},LA f vs σ k→ag Tryz.prog f vs k σ:=fun h=>aH Vk OE h
theorem Vl (h:Qt vs σ k):ag Tryz.prog 261 vs k σ:=by
 unfold Qt at h
 split at h
 ·rename_i x
  obtain⟨hx,h⟩:=h
  refine ag.cj (av (Go.Ev.Clean.int _ _) aM) (.int _ _) (F261.flat (live:=H2) (call:=LA) (n₀:=0) (σ:=Go.Ev.start) (fun h=>Ih h) rfl (by kernel_rfl) ?_) h
  rw[afR]
  have hd:x.fdiv (2^min (52:Int).toNat IntKind.u64.bits)=x/4503599627370496:=by
   rw[Int.fdiv_eq_ediv_of_nonneg x (by decide)];rfl
  rw[hd,T6 _ 11 2047 (by decide) (by decide) (by omega),i64_in _ (by omega)]
  exact⟨by decide,rfl⟩
 ·exact h.elim
theorem Ii:∀ {f:FuncId} {vs:List V} {σ:St} {k:ah},LB f vs σ k→ag Tryz.prog f vs k σ:=fun h=>aH Vl Ih h
theorem Vm (h:Qu vs σ k):ag Tryz.prog 262 vs k σ:=by
 unfold Qu at h
 split at h
 ·rename_i x
  obtain⟨hx,h⟩:=h
  refine ag.cj (av (Go.Ev.Clean.int _ _) aM) (.int _ _) (F262.flat (live:=H3) (call:=LB) (n₀:=0) (σ:=Go.Ev.start) (fun h=>Ii h) rfl (by kernel_rfl) ?_) h
  rw[afS,T6 _ 52 4503599627370495 (by decide) (by decide) (by omega)]
  rfl
 ·exact h.elim
theorem Ij:∀ {f:FuncId} {vs:List V} {σ:St} {k:ah},LC f vs σ k→ag Tryz.prog f vs k σ:=fun h=>aH Vm Ii h
theorem Vn (h:Qv vs σ k):ag Tryz.prog 237 vs k σ:=by
 unfold Qv at h
 split at h
 ·rename_i x
  obtain⟨hx,h⟩:=h
  refine ag.cj (av (Go.Ev.Clean.int _ _) aM) (.int _ _) (F237.flat (live:=H4) (call:=LC) (n₀:=0) (σ:=Go.Ev.start) (fun h=>Ij h) rfl (by kernel_rfl) ?_) h
  rw[afT];unfold Yo
  repeat' first
   | refine⟨hx,rfl,aq (fun _=>?_) (fun _=>?_)⟩
   | (exfalso;omega)
   | (unfold lV;rw[if_pos (by omega),if_pos (by omega)])
   | (unfold lV;rw[if_pos (by omega),if_neg (by omega)])
   | (unfold lV;rw[if_neg (by omega),if_pos (by omega),if_pos (by omega)])
   | (unfold lV;rw[if_neg (by omega),if_pos (by omega),if_neg (by omega)])
   | (unfold lV;rw[if_neg (by omega),if_neg (by omega)])
 ·exact h.elim
theorem Ik:∀ {f:FuncId} {vs:List V} {σ:St} {k:ah},LD f vs σ k→ag Tryz.prog f vs k σ:=fun h=>aH Vn Ij h
omit [Env] in
theorem YA (x:Int):lV x=1↔AQ x:=by
 unfold lV AQ
 by_cases h1:eg x=2047
 ·rw[if_pos h1]
  by_cases h2:gu x≠0
  ·rw[if_pos h2];exact⟨fun _=>⟨h1,h2⟩,fun _=>rfl⟩
  ·rw[if_neg h2];exact⟨fun h=>(by cases h),fun h=>(h2 h.2).elim⟩
 ·rw[if_neg h1]
  refine⟨fun h=>?_,fun h=>(h1 h.1).elim⟩
  split at h
  ·split at h<;>cases h
  ·cases h
theorem Vo (h:Qw vs σ k):ag Tryz.prog 202 vs k σ:=by
 unfold Qw at h
 split at h
 ·rename_i x
  obtain⟨hx,h⟩:=h
  refine ag.cj (av (Go.Ev.Clean.int _ _) aM) (.int _ _) (F202.flat (live:=H5) (call:=LD) (n₀:=0) (σ:=Go.Ev.start) (fun h=>Ik h) rfl (by kernel_rfl) ?_) h
  rw[afU]
  unfold fQ
  refine⟨hx,rfl,aq (fun h1=>?_) fun h1=>?_⟩
  ·rw[if_pos ((YA x).1 h1)]
  ·rw[if_neg fun hh=>h1 ((YA x).2 hh)]
 ·exact h.elim
theorem Il:∀ {f:FuncId} {vs:List V} {σ:St} {k:ah},LF f vs σ k→ag Tryz.prog f vs k σ:=fun h=>aH Vo Ik h
end
end Go.Proofs.YtbajncpfmemdgaaGreatDoor
end
section
namespace Go.Proofs.YtbajncpfmemdgaaGreatDoor
open Go Go.Ev Go.IntWalk
theorem F193:bl Tryz.prog 193 Tryz.f193:=.of (by kernel_rfl) (by kernel_rfl)
theorem F148:bl Tryz.prog 148 Tryz.f148:=.of (by kernel_rfl) (by kernel_rfl)
theorem F153:bl Tryz.prog 153 Tryz.f153:=.of (by kernel_rfl) (by kernel_rfl)
theorem YB:fQ 0=0:=by decide
theorem Im (v:az):(jI v).f1=v.f1↔(v.f1=0∨v.f0=1∨v.f0=2):=by
 unfold jI;(repeat' split)<;>simp_all<;>omega
theorem Io (v:az):(jI v).f2=v.f2↔(v.f2=0∨v.f0=3):=by
 unfold jI;(repeat' split)<;>simp_all<;>omega
theorem Ip (v:az):(jI v).f3=v.f3↔(v.f3=[]∨v.f0=4∨v.f0=5):=by
 unfold jI
 (repeat' split)
 ·exact⟨fun h=>.inl h.symm,fun h=>by rcases h with h | h | h<;>first | exact h.symm | omega⟩
 ·exact⟨fun h=>.inl h.symm,fun h=>by rcases h with h | h | h<;>first | exact h.symm | omega⟩
 ·rename_i h;exact⟨fun _=>.inr h,fun _=>rfl⟩
 ·exact⟨fun h=>.inl h.symm,fun h=>by rcases h with h | h | h<;>first | exact h.symm | omega⟩
theorem Vp (v:az):(jI v).f0=v.f0:=by
 unfold jI;(repeat' split)<;>rfl
theorem YC {v:az} (h:v.f0<0∨v.f0≥6):bp v=5:=if_pos h
theorem T7 {v:az} (h:¬(v.f0<0∨v.f0≥6)) (h1:¬jQ v):bp v=4:=by unfold bp;rw[if_neg h,if_pos h1]
theorem ve6 {v:az} (h:¬(v.f0<0∨v.f0≥6)) (h1:jQ v) (h2:v.f0=1∧v.f1≠0∧v.f1≠1):bp v=6:=by unfold bp;rw[if_neg h,if_neg (fun hh=>hh h1),if_pos h2]
theorem YD {v:az} (h:¬(v.f0<0∨v.f0≥6)) (h1:jQ v) (h2:¬(v.f0=1∧v.f1≠0∧v.f1≠1)) (h3:fQ v.f2≠v.f2):bp v=4:=by unfold bp;rw[if_neg h,if_neg (fun hh=>hh h1),if_neg h2,if_pos h3]
theorem ve2 {v:az} (h:¬(v.f0<0∨v.f0≥6)) (h1:jQ v) (h2:¬(v.f0=1∧v.f1≠0∧v.f1≠1)) (h3:fQ v.f2=v.f2) (h4:v.f3.length>64):bp v=2:=by
 unfold bp;rw[if_neg h,if_neg (fun hh=>hh h1),if_neg h2,if_neg (fun hh=>hh h3),if_pos h4]
theorem ve7 {v:az} (h:¬(v.f0<0∨v.f0≥6)) (h1:jQ v) (h2:¬(v.f0=1∧v.f1≠0∧v.f1≠1)) (h3:fQ v.f2=v.f2) (h4:¬v.f3.length>64) (h5:v.f0=5) (h6:dZ v.f3.length v.f3=false):bp v=7:=by
 unfold bp;rw[if_neg h,if_neg (fun hh=>hh h1),if_neg h2,if_neg (fun hh=>hh h3),if_neg h4,if_pos ⟨h5,h6⟩]
theorem T8 {v:az} (h:¬(v.f0<0∨v.f0≥6)) (h1:jQ v) (h2:¬(v.f0=1∧v.f1≠0∧v.f1≠1)) (h3:fQ v.f2=v.f2) (h4:¬v.f3.length>64) (h5:¬(v.f0=5∧dZ v.f3.length v.f3=false)):bp v=0:=by
 unfold bp;rw[if_neg h,if_neg (fun hh=>hh h1),if_neg h2,if_neg (fun hh=>hh h3),if_neg h4,if_neg h5]
theorem mX {v:az} {c:Int} (h:bp v=c):V.int .i64 c=.int .i64 (bp v):=by rw[h]
section
variable [Env] {vs:List V} {σ:St} {k:ah}
theorem Vq (h:Qx vs σ k):ag Tryz.prog 193 vs k σ:=by
 unfold Qx at h
 split at h
 ·rename_i a b c s
  have hs:∀e:az,eA (az.enc e):=fun e=>.agg (bN (.int _ _) (bN (.int _ _) (bN (.int _ _) (bN (.str _) gn))))
  refine ag.cj (us:=[az.enc ⟨a,b,c,s⟩]) (av (az.aJ ⟨a,b,c,s⟩) aM) (hs (jI ⟨a,b,c,s⟩)) (F193.flat (live:=H6) (call:=LF) (n₀:=0) (σ:=Go.Ev.start) (fun h=>Il h) rfl (by kernel_rfl) ?_) h
  rw[afV]
  unfold jI
  refine⟨rfl,aq (fun h1=>?_) fun h1=>⟨rfl,aq (fun h2=>?_) fun h2=>⟨rfl,aq (fun h3=>?_) fun h3=>⟨rfl,aq (fun h4=>?_) fun h4=>⟨rfl,aq (fun h5=>?_) fun h5=>?_⟩⟩⟩⟩⟩
  ·rw[if_pos (.inl h1)];rfl
  ·rw[if_pos (.inr h2)];rfl
  ·rw[if_neg (by simp_all),if_pos h3];rfl
  ·rw[if_neg (by simp_all),if_neg h3,if_pos (.inl h4)];rfl
  ·rw[if_neg (by simp_all),if_neg h3,if_pos (.inr h5)];rfl
  ·rw[if_neg (by simp_all),if_neg h3,if_neg (by simp_all)];rfl
 ·exact h.elim
theorem Iq:∀ {f:FuncId} {vs:List V} {σ:St} {k:ah},LG f vs σ k→ag Tryz.prog f vs k σ:=fun h=>aH Vq Il h
theorem Vr (h:Qy vs σ k):ag Tryz.prog 148 vs k σ:=by
 unfold Qy at h
 split at h
 ·rename_i a b c s
  obtain⟨hc,h⟩:=h
  refine ag.cj (us:=[az.enc ⟨a,b,c,s⟩]) (av (az.aJ ⟨a,b,c,s⟩) aM) (.int _ _) (F148.flat (live:=H7) (call:=LG) (n₀:=0) (σ:=Go.Ev.start) (fun h=>Iq h) rfl (by kernel_rfl) ?_) h
  generalize he:(⟨a,b,c,s⟩:az)=e
  have fu:0≤e.f2∧e.f2<18446744073709551616:=by subst he;exact hc
  have hb:∀ {A:Prop},A→aa (V.beq (.agg [.int .i64 e.f0,.int .i64 e.f1,.int .u64 e.f2,.str e.f3]) (.agg [.int .i64 e.f0,.int .i64 e.f1,.int .u64 e.f2,.str e.f3])&&true) A False:=fun hA=>aa.mk (fun _=>hA) fun h=>by simp [V.beq,V.fJ] at h
  have Nt:∀ {A:Prop},A→aa (V.beq (.int .u64 e.f2) (.int .u64 e.f2)&&true) A False:=fun hA=>aa.mk (fun _=>hA) fun h=>by simp [V.beq] at h
  rw[afW];unfold T1
  refine⟨rfl,aq (fun h1=>mX (YC (.inl h1))) fun h1=>⟨rfl,aq (fun h2=>mX (YC (.inr h2))) fun h2=>hb ?_⟩⟩
  have h0:¬(e.f0<0∨e.f0≥6):=by omega
  refine⟨rfl,aq (fun _=>⟨rfl,aq (fun a1=>⟨rfl,aq (fun a2=>aq (fun a3=>?_) fun a3=>?_) fun a2=>?_⟩) fun a1=>?_⟩) fun a0=>absurd (Vp e) a0⟩
  ·have ho:jQ e:=⟨(Im e).1 a1,(Io e).1 a2,(Ip e).1 a3⟩
   refine⟨rfl,aq (fun k1=>⟨rfl,aq (fun k2=>⟨rfl,aq (fun k3=>mX (ve6 h0 ho ⟨k1,k2,k3⟩)) fun k3=>?_⟩) fun k2=>?_⟩) fun k1=>?_⟩
   all_goals have hk:¬(e.f0=1∧e.f1≠0∧e.f1≠1):=by omega
   all_goals refine⟨fu,Nt ⟨rfl,aq (fun c1=>mX (YD h0 ho hk c1)) fun c1=>⟨rfl,aq (fun c2=>?_) fun c2=>⟨rfl,aq (fun c3=>⟨?_,aa.mk (fun c4=>?_) fun c4=>?_⟩) fun c3=>?_⟩⟩⟩⟩
   all_goals have c1:=Decidable.not_not.1 c1
   all_goals (rw[aP] at c2)
   all_goals first
    | exact mX (ve2 h0 ho hk c1 (by omega))
    | (show e.f3.length≤64;omega)
    | exact mX (ve7 h0 ho hk c1 (by omega) c3 (by simpa using c4))
    | exact mX (T8 h0 ho hk c1 (by omega) fun hh=>by rw[hh.2] at c4;cases c4)
    | exact mX (T8 h0 ho hk c1 (by omega) fun hh=>c3 hh.1)
  ·exact mX (T7 h0 fun ho=>a3 ((Ip e).2 ho.2.2))
  ·exact mX (T7 h0 fun ho=>a2 ((Io e).2 ho.2.1))
  ·exact mX (T7 h0 fun ho=>a1 ((Im e).2 ho.1))
 ·exact h.elim
theorem Ir:∀ {f:FuncId} {vs:List V} {σ:St} {k:ah},LH f vs σ k→ag Tryz.prog f vs k σ:=fun h=>aH Vr Iq h
theorem Vs (h:QA vs σ k):ag Tryz.prog 153 vs k σ:=by
 unfold QA at h
 split at h
 ·rename_i a b c s
  obtain⟨hc,h⟩:=h
  refine ag.cj (us:=[az.enc ⟨a,b,c,s⟩]) (av (az.aJ ⟨a,b,c,s⟩) aM) (.int _ _) (F153.flat (live:=H8) (call:=LH) (n₀:=0) (σ:=Go.Ev.start) (fun h=>Ir h) rfl (by kernel_rfl) ?_) h
  generalize he:(⟨a,b,c,s⟩:az)=e
  have fu:0≤e.f2∧e.f2<18446744073709551616:=by subst he;exact hc
  have Nt:∀ {A:Prop},A→aa (V.beq (.int .u64 e.f2) (.int .u64 e.f2)&&true) A False:=fun hA=>aa.mk (fun _=>hA) fun h=>by simp [V.beq] at h
  have YE:e.f0<0∨e.f0≥6→V.int .i64 5=.int .i64 (bp e):=fun h=>mX (YC h)
  have four:¬(e.f0<0∨e.f0≥6)→¬jQ e→V.int .i64 4=.int .i64 (bp e):=fun h h1=>mX (T7 h h1)
  have tail:¬(e.f0<0∨e.f0≥6)→jQ e→¬(e.f0=1∧e.f1≠0∧e.f1≠1)→fQ e.f2=e.f2→(IntKind.i64=.i64)∧aa (decide (((len e.f3:Nat):Int)>(64:Int))) (V.int .i64 2=.int .i64 (bp e))
    ((IntKind.i64=.i64)∧aa (decide (e.f0=(5:Int))) (e.f3.length≤64∧aa (!(dZ e.f3.length e.f3)) (V.int .i64 7=.int .i64 (bp e)) (V.int .i64 0=.int .i64 (bp e))) (V.int .i64 0=.int .i64 (bp e))):=by
   intro h0 ho hk c1
   refine⟨rfl,aq (fun c2=>?_) fun c2=>⟨rfl,aq (fun c3=>⟨?_,aa.mk (fun c4=>?_) fun c4=>?_⟩) fun c3=>?_⟩⟩
   all_goals (rw[aP] at c2)
   ·exact mX (ve2 h0 ho hk c1 (by omega))
   ·omega
   ·exact mX (ve7 h0 ho hk c1 (by omega) c3 (by simpa using c4))
   ·exact mX (T8 h0 ho hk c1 (by omega) fun hh=>by rw[hh.2] at c4;cases c4)
   ·exact mX (T8 h0 ho hk c1 (by omega) fun hh=>c3 hh.1)
  have canon:¬(e.f0<0∨e.f0≥6)→jQ e→¬(e.f0=1∧e.f1≠0∧e.f1≠1)→(IntKind.i64=.i64)∧aa (decide (e.f0=(3:Int))) ((0≤e.f2∧e.f2<18446744073709551616)∧aa (V.beq (.int .u64 e.f2) (.int .u64 e.f2)&&true) ((IntKind.u64=.u64)∧aa (decide (fQ e.f2≠e.f2)) (V.int .i64 4=.int .i64 (bp e))
    ((IntKind.i64=.i64)∧aa (decide (((len e.f3:Nat):Int)>(64:Int))) (V.int .i64 2=.int .i64 (bp e)) ((IntKind.i64=.i64)∧aa (decide (e.f0=(5:Int))) (e.f3.length≤64∧aa (!(dZ e.f3.length e.f3)) (V.int .i64 7=.int .i64 (bp e)) (V.int .i64 0=.int .i64 (bp e))) (V.int .i64 0=.int .i64 (bp e))))) False)
    ((IntKind.i64=.i64)∧aa (decide (((len e.f3:Nat):Int)>(64:Int))) (V.int .i64 2=.int .i64 (bp e)) ((IntKind.i64=.i64)∧aa (decide (e.f0=(5:Int))) (e.f3.length≤64∧aa (!(dZ e.f3.length e.f3)) (V.int .i64 7=.int .i64 (bp e)) (V.int .i64 0=.int .i64 (bp e))) (V.int .i64 0=.int .i64 (bp e)))):=by
   intro h0 ho hk
   refine⟨rfl,aq (fun k3=>⟨fu,Nt ⟨rfl,aq (fun c1=>mX (YD h0 ho hk c1)) fun c1=>tail h0 ho hk (Decidable.not_not.1 c1)⟩⟩) fun k3=>tail h0 ho hk ?_⟩
   rcases ho.2.1 with h | h
   ·rw[h];exact YB
   ·exact absurd h k3
  rw[afX];unfold Yq Yr Yp T3 qa T2 Qz
  repeat' first
   | refine⟨rfl,aq (fun _=>YE (by omega)) (fun _=>?_)⟩
   | refine canon (by omega) ⟨by omega,by omega,by first | exact .inl (Decidable.not_not.1 ‹¬(e.f3≠[])›) | omega⟩ (by omega)
   | refine⟨rfl,aq (fun _=>?_) (fun _=>?_)⟩
   | refine aq (fun _=>?_) (fun _=>?_)
  all_goals first
   | exact YE (by omega)
   | (refine four (by omega) fun ho=>?_;obtain⟨o1,o2,o3⟩:=ho;first | omega | (rcases o3 with o3 | o3 | o3<;>first | contradiction | omega))
   | exact mX (ve6 (by omega) ⟨by omega,by omega,by first | exact .inl (Decidable.not_not.1 ‹¬(e.f3≠[])›) | omega⟩ ⟨by omega,by omega,by omega⟩)
   | (exfalso;omega)
 ·exact h.elim
theorem A7:∀ {f:FuncId} {vs:List V} {σ:St} {k:ah},AV f vs σ k→ag Tryz.prog f vs k σ:=fun h=>aH Vs Ir h
end
end Go.Proofs.YtbajncpfmemdgaaGreatDoor
end
section
namespace Go.Proofs.YtbajncpfmemdgaaGreatDoor
open Go Go.Ev Go.IntWalk
theorem F176:bl Tryz.prog 176 Tryz.f176:=.of (by kernel_rfl) (by kernel_rfl)
theorem F152:bl Tryz.prog 152 Tryz.f152:=.of (by kernel_rfl) (by kernel_rfl)
theorem F106:bl Tryz.prog 106 Tryz.f106:=.of (by kernel_rfl) (by kernel_rfl)
theorem F222:bl Tryz.prog 222 Tryz.f222:=.of (by kernel_rfl) (by kernel_rfl)
theorem F178:bl Tryz.prog 178 Tryz.f178:=.of (by kernel_rfl) (by kernel_rfl)
theorem F42:bl Tryz.prog 42 Tryz.f42:=.of (by kernel_rfl) (by kernel_rfl)
theorem F108:bl Tryz.prog 108 Tryz.f108:=.of (by kernel_rfl) (by kernel_rfl)
def nz (b:Int) (i:Nat):Prop:=(97≤b∧b≤122)∨(i≠0∧((48≤b∧b≤57)∨b=95))
theorem QU (b:Int) (i:Nat):(eN b||(decide (i≠0)&&Lz b))=true↔nz b i:=by
 unfold nz eN Lz
 rw[Bool.or_eq_true,Bool.and_eq_true,decide_eq_true_iff,decide_eq_true_iff,decide_eq_true_iff]
theorem v5 (s:List UInt8):∀n,Dd s n=true↔∀i,i<n→nz (aw s i) i
 | 0=>⟨fun _ i hi=>absurd hi (Nat.not_lt_zero i),fun _=>rfl⟩
 | n+1=>by
  show(Dd s n&&(eN (aw s n)||(decide (n≠0)&&Lz (aw s n))))=true↔_
  rw[Bool.and_eq_true,QU,v5 s n]
  constructor
  ·intro h i hi
   by_cases e:i=n
   ·rw[e];exact h.2
   ·exact h.1 i (by omega)
  ·exact fun h=>⟨fun i hi=>h i (by omega),h n (by omega)⟩
theorem De {s:List UInt8} (h:s.length=0∨s.length>16):aK s=8:=if_pos h
theorem Ff {s:List UInt8} {i:Nat} (hi:i<s.length) (h:¬nz (aw s i) i):aK s=8:=by
 by_cases h0:s.length=0∨s.length>16
 ·exact De h0
 ·unfold aK
  rw[if_neg h0,if_neg fun hh=>h ((v5 s _).1 hh i hi)]
theorem T9 {s:List UInt8} (h0:¬(s.length=0∨s.length>16)) (h:∀i,i<s.length→nz (aw s i) i):aK s=0:=by
 unfold aK
 rw[if_neg h0,if_pos ((v5 s _).2 h)]
theorem A8 (s:List UInt8) (q:Nat→List UInt8):∀n,0≤k0 s q n∧k0 s q n≤n∧(0<k0 s q n↔∃i,i<n∧q i=s)
 | 0=>⟨by show(0:Int)≤0;omega,by show(0:Int)≤0;omega,⟨fun h=>by have h:(0:Int)<0:=h;omega,fun⟨i,hi,_⟩=>absurd hi (Nat.not_lt_zero i)⟩⟩
 | n+1=>by
  obtain⟨h1,h2,h3⟩:=A8 s q n
  have e:k0 s q (n+1)=k0 s q n+if q n=s then 1 else 0:=rfl
  rw[e]
  by_cases hq:q n=s
  ·rw[if_pos hq]
   exact⟨by omega,by omega,⟨fun _=>⟨n,by omega,hq⟩,fun _=>by omega⟩⟩
  ·rw[if_neg hq]
   refine⟨by omega,by omega,⟨fun h=>?_,fun⟨i,hi,he⟩=>?_⟩⟩
   ·obtain⟨i,hi,he⟩:=h3.1 (by omega)
    exact⟨i,by omega,he⟩
   ·have:i≠n:=fun e=>hq (by rw[←e];exact he)
    have:=h3.2 ⟨i,by omega,he⟩
    omega
theorem yh (s:List UInt8) (q:Nat→List UInt8):∀n,1<k0 s q n↔∃i j,i<j∧j<n∧q i=s∧q j=s
 | 0=>⟨fun h=>by have h:(1:Int)<0:=h;omega,fun⟨i,j,_,hj,_⟩=>absurd hj (Nat.not_lt_zero j)⟩
 | n+1=>by
  obtain⟨h1,h2,h3⟩:=A8 s q n
  have ih:=yh s q n
  have e:k0 s q (n+1)=k0 s q n+if q n=s then 1 else 0:=rfl
  rw[e]
  by_cases hq:q n=s
  ·rw[if_pos hq]
   constructor
   ·intro h
    obtain⟨i,hi,he⟩:=h3.1 (by omega)
    exact⟨i,n,hi,by omega,he,hq⟩
   ·rintro⟨i,j,uJ,hj,e1,e2⟩
    have:=h3.2 ⟨i,by omega,e1⟩
    omega
  ·rw[if_neg hq,Int.add_zero,ih]
   constructor
   ·rintro⟨i,j,uJ,hj,e1,e2⟩;exact⟨i,j,uJ,by omega,e1,e2⟩
   ·rintro⟨i,j,uJ,hj,e1,e2⟩
    have:j≠n:=fun e=>hq (by rw[←e];exact e2)
    exact⟨i,j,uJ,by omega,e1,e2⟩
theorem iI (s:List UInt8) (q:Nat→List UInt8):∀n,(∀i,i<n→q i≠s)→ct s q n= -1
 | 0,_=>rfl
 | n+1,h=>by
  show(if ct s q n≠ -1 then ct s q n else if q n=s then(n:Int) else -1)= -1
  rw[iI s q n fun i hi=>h i (by omega),if_neg (by decide),if_neg (h n (by omega))]
theorem kU (s:List UInt8) (q:Nat→List UInt8):∀n i,i<n→q i=s→(∀j,j<i→q j≠s)→ct s q n=i
 | 0,i,hi,_,_=>absurd hi (Nat.not_lt_zero i)
 | n+1,i,hi,he,hl=>by
  show(if ct s q n≠ -1 then ct s q n else if q n=s then(n:Int) else -1)=i
  by_cases e:i=n
  ·subst e
   rw[iI s q i hl,if_neg (by decide),if_pos he]
  ·rw[kU s q n i (by omega) he hl,if_pos (by omega)]
theorem lx (s:List UInt8) (q:Nat→List UInt8) (n:Nat):(ct s q n= -1∧∀i,i<n→q i≠s)∨∃i:Nat,ct s q n=i∧i<n∧q i=s∧∀j,j<i→q j≠s:=by
 by_cases h:∃i,i<n∧q i=s
 ·right
  obtain⟨i,hi,he⟩:=h
  induction i using Nat.strongRecOn with
  | _ i ih=>
   by_cases hl:∃j,j<i∧q j=s
   ·obtain⟨j,hj,hej⟩:=hl
    exact ih j hj (by omega) hej
   ·have cm:∀j,j<i→q j≠s:=fun j hj e=>hl ⟨j,hj,e⟩
    exact⟨i,kU s q n i hi he cm,hi,he,cm⟩
 ·left
  have h':∀i,i<n→q i≠s:=fun i hi e=>h ⟨i,hi,e⟩
  exact⟨iI s q n h',h'⟩
theorem om (q:Nat→List UInt8):∀n,gh q n=true↔∀i j,i<j→j<n→q i≠q j
 | 0=>⟨fun _ i j _ hj=>absurd hj (Nat.not_lt_zero j),fun _=>rfl⟩
 | n+1=>by
  show(gh q n&&decide (ct (q n) q n= -1))=true↔_
  rw[Bool.and_eq_true,om q n,decide_eq_true_iff]
  constructor
  ·rintro⟨h1,h2⟩ i j uJ hj
   by_cases e:j=n
   ·subst e
    rcases lx (q j) q j with ⟨_,h⟩ | ⟨m,hm,_⟩
    ·exact h i uJ
    ·rw[h2] at hm;omega
   ·exact h1 i j uJ (by omega)
  ·exact fun h=>⟨fun i j uJ hj=>h i j uJ (by omega),iI _ _ _ fun i hi=>h i n hi (by omega)⟩
section
variable [Env] {vs:List V} {σ:St} {k:ah}
theorem mh (n:Nat) (h:Nat→List UInt8):Go.Ev.Clean (V.arr n (fun i=>V.str (h i)) 1 false false):=
 Go.Ev.Clean.arr fun i _ u hu=>by
  have hu:u∈[V.str (h i)]:=hu
  rw[List.mem_singleton] at hu
  subst hu;exact Go.Ev.Clean.str _
def YF (s:List UInt8):Nat→List SV→Prop
 | 0,ss=>∃i:Nat,i≤s.length∧(∀j,j<i→nz (aw s j) j)∧ss=[.row (len s) (dM s) 1,.val (.int .i64 ((len s:Nat):Int)),.val (.int .i64 i)]
 | _,_=>False
theorem Vt (h:QE vs σ k):ag Tryz.prog 176 vs k σ:=by
 unfold QE at h
 split at h
 ·rename_i s
  refine ag.cj (av (Go.Ev.Clean.str _) aM) (.int _ _) ?_ h
  by_cases h0:s.length=0∨s.length>16
  ·refine F176.cf (live:=wW) (call:=AV) (n₀:=0) (σ:=Go.Ev.start) (fun h=>A7 h) rfl 1 (by kernel_rfl) Nat.lt_wfRel.wf (fun _ _=>0) (fun _ _=>False) (fun _ _ h=>h.elim) ?_ fun _ _ _ h=>h.elim
   rw[Ys,De h0]
   refine aq (fun _=>rfl) fun h1=>⟨rfl,aq (fun _=>rfl) fun h2=>?_⟩
   rw[aP] at h2
   rcases h0 with h0 | h0
   ·exact absurd (List.eq_nil_of_length_eq_zero h0) h1
   ·omega
  ·refine F176.cf (live:=wW) (call:=AV) (n₀:=0) (σ:=Go.Ev.start) (fun h=>A7 h) rfl 1 (by kernel_rfl) Nat.lt_wfRel.wf (fun _ ss=>20-cb ss) (YF s) ?_ ?_ ?_
   ·intro k ss hI
    cases k with
    | zero=>
     obtain⟨i,_,_,rfl⟩:=hI
     refine aN (fun j _ u hu=>?_) (aG (aG bG))
     have hu:u∈[dM s j]:=hu
     rw[List.mem_singleton] at hu
     subst hu;exact Go.Ev.Clean.int _ _
    | succ k=>exact hI.elim
   ·rw[Ys]
    refine aq (fun h1=>absurd (by rw[h1];rfl:s.length=0) fun e=>h0 (.inl e)) fun h1=>⟨rfl,aq (fun h2=>?_) fun h2=>⟨?_,⟨rfl,rfl⟩,0,by omega,fun j hj=>absurd hj (Nat.not_lt_zero j),rfl⟩⟩
    ·rw[aP] at h2;omega
    ·rw[aP];omega
   ·intro k hk ss hI
    obtain rfl:k=0:=by omega
    obtain⟨i,hi,hj,rfl⟩:=hI
    rw[afY];unfold QD QC QB
    refine⟨rfl,aq (fun h1=>?_) fun h1=>?_⟩
    ·rw[aP] at h1
     rw[Int.toNat_natCast]
     refine⟨⟨by omega,by rw[aP];omega⟩,by rw[aP];omega,?_⟩
     have bad:¬nz (aw s i) i→V.int .i64 8=.int .i64 (aK s):=fun hn=>by rw[Ff (by omega) hn]
     have cont:nz (aw s i) i→(len s=len s∧1=1)∧(YF s 0 [.row (len s) (dM s) 1,.val (.int .i64 ((len s:Nat):Int)),.val (.int .i64 (IntKind.i64.wrap ((i:Int)+1)))]∧
       (fun x1 x2:Nat=>x1<x2) (20-cb [.row (len s) (dM s) 1,.val (.int .i64 ((len s:Nat):Int)),.val (.int .i64 (IntKind.i64.wrap ((i:Int)+1)))]) (20-cb [.row (len s) (dM s) 1,.val (.int .i64 ((len s:Nat):Int)),.val (.int .i64 i)])):=fun hc=>by
      rw[i64_in ((i:Int)+1) (by omega)]
      refine⟨⟨rfl,rfl⟩,⟨i+1,by omega,fun j gS=>?_,rfl⟩,?_⟩
      ·by_cases e:j=i
       ·rw[e];exact hc
       ·exact hj j (by omega)
      ·show 20-((i:Int)+1).toNat<20-(i:Int).toNat
       omega
     unfold nz at bad cont
     repeat' first
      | exact cont (by omega)
      | exact bad (by omega)
      | refine⟨rfl,aq (fun _=>?_) (fun _=>?_)⟩
    ·rw[aP] at h1
     rw[T9 h0 fun j gS=>hj j (by omega)]
 ·exact h.elim
theorem Is:∀ {f:FuncId} {vs:List V} {σ:St} {k:ah},LI f vs σ k→ag Tryz.prog f vs k σ:=fun h=>aH Vt A7 h
theorem Vu (h:QF vs σ k):ag Tryz.prog 152 vs k σ:=by
 unfold QF at h
 split at h
 ·rename_i c
  refine ag.cj (av (Go.Ev.Clean.int _ _) aM) (.bool _) (F152.flat (live:=H9) (call:=LI) (n₀:=0) (σ:=Go.Ev.start) (fun h=>Is h) rfl (by kernel_rfl) ?_) h
  rw[afZ]
  unfold eN
  refine⟨rfl,aq (fun h1=>⟨rfl,aq (fun h2=>?_) fun h2=>?_⟩) fun h1=>?_⟩
  ·rw[decide_eq_true ⟨h1,h2⟩]
  ·rw[decide_eq_false fun hh=>h2 hh.2]
  ·rw[decide_eq_false fun hh=>h1 hh.1]
 ·exact h.elim
theorem It:∀ {f:FuncId} {vs:List V} {σ:St} {k:ah},E5 f vs σ k→ag Tryz.prog f vs k σ:=fun h=>aH Vu Is h
def YG (s:List UInt8):Nat→List SV→Prop
 | 0,ss=>∃i:Nat,1≤i∧i≤s.length∧(∀j,j<i→nz (aw s j) j)∧ss=[.val (.str s),.val (.int .i64 i)]
 | _,_=>False
omit [Env] in
theorem tE (c:Int):eN c=true↔97≤c∧c≤122:=by unfold eN;rw[decide_eq_true_iff]
theorem Vv (h:QG vs σ k):ag Tryz.prog 106 vs k σ:=by
 unfold QG at h
 split at h
 ·rename_i s
  refine ag.cj (av (Go.Ev.Clean.str _) aM) (.int _ _) ?_ h
  refine F106.cf (live:=AW) (call:=E5) (n₀:=0) (σ:=Go.Ev.start) (fun h=>It h) rfl 1 (by kernel_rfl) Nat.lt_wfRel.wf (fun _ ss=>20-cb ss) (fun k ss=>¬(s.length=0∨s.length>16)∧YG s k ss) ?_ ?_ ?_
  ·rintro k ss ⟨_,hI⟩
   cases k with
   | zero=>obtain⟨i,_,_,_,rfl⟩:=hI;exact gD (aG bG)
   | succ k=>exact hI.elim
  ·rw[af0]
   refine⟨rfl,aq (fun h1=>?_) fun h1=>⟨rfl,aq (fun h2=>?_) fun h2=>⟨⟨by decide,?_⟩,aa.mk (fun h3=>?_) fun h3=>?_⟩⟩⟩
   ·rw[aP] at h1;rw[De (.inl (by omega))]
   ·rw[aP] at h2;rw[De (.inr (by omega))]
   ·rw[aP] at h1⊢;omega
   ·rw[aP] at h1
    have NY:eN (bF s 0)=false:=by simpa using h3
    have hf:eN (aw s 0)=false:=NY
    rw[Ff (i:=0) (by omega) fun hc=>?_]
    rcases hc with hc | hc
    ·rw[(tE _).2 hc] at hf;cases hf
    ·exact hc.1 rfl
   ·rw[aP] at h1 h2
    have NY:eN (bF s 0)=true:=by simpa using h3
    have hf:eN (aw s 0)=true:=NY
    refine⟨by omega,1,by omega,by omega,fun j hj=>?_,rfl⟩
    obtain rfl:j=0:=by omega
    exact .inl ((tE _).1 hf)
  ·intro k hk ss hI
   obtain rfl:k=0:=by omega
   obtain⟨h0,i,h1,hi,hj,rfl⟩:=hI
   rw[af1]
   refine⟨rfl,aq (fun h2=>?_) fun h2=>?_⟩
   ·rw[aP] at h2
    have cW:0≤(i:Int)∧(i:Int)<((len s:Nat):Int):=⟨by omega,by rw[aP];omega⟩
    have bad:¬nz (aw s i) i→V.int .i64 8=.int .i64 (aK s):=fun hn=>by rw[Ff (by omega) hn]
    have cont:nz (aw s i) i→((¬(s.length=0∨s.length>16)∧YG s 0 [.val (.str s),.val (.int .i64 (IntKind.i64.wrap ((i:Int)+1)))])∧
      (fun x1 x2:Nat=>x1<x2) (20-cb [.val (.str s),.val (.int .i64 (IntKind.i64.wrap ((i:Int)+1)))]) (20-cb [.val (.str s),.val (.int .i64 i)])):=fun hc=>by
     rw[i64_in ((i:Int)+1) (by omega)]
     refine⟨⟨h0,i+1,by omega,by omega,fun j gS=>?_,rfl⟩,?_⟩
     ·by_cases e:j=i
      ·rw[e];exact hc
      ·exact hj j (by omega)
     ·show 20-((i:Int)+1).toNat<20-(i:Int).toNat
      omega
    have eb:bF s i=aw s i:=rfl
    rw[eb]
    unfold nz at bad cont
    cases hl:eN (aw s i) with
    | true=>
     have hl:=(tE _).1 hl
     have c:=cont (by omega)
     exact⟨cW,c⟩
    | false=>
     have hl:¬(97≤aw s i∧aw s i≤122):=fun hh=>by rw[(tE _).2 hh] at hl;cases hl
     refine⟨cW,cW,rfl,aq (fun h3=>⟨cW,rfl,aq (fun h4=>bad (by omega)) fun h4=>⟨cW,rfl,aq (fun h5=>bad (by omega)) fun h5=>cont (by omega)⟩⟩) fun h3=>cont (by omega)⟩
   ·rw[aP] at h2
    rw[T9 h0 fun j gS=>hj j (by omega)]
 ·exact h.elim
theorem Iu:∀ {f:FuncId} {vs:List V} {σ:St} {k:ah},E6 f vs σ k→ag Tryz.prog f vs k σ:=fun h=>aH Vv It h
end
end Go.Proofs.YtbajncpfmemdgaaGreatDoor
end
section
namespace Go.Ev
open Go
section
variable [Env] {P:Program} {σ:St}
structure bW (P:Program) (f:FuncId) (vs:List V) (Q:ah) (σ:St):Prop where
 ex:∃v τ,Q v τ
 h:∀(ρ:aA) (w:World) (vs':List Value),R ρ σ w→ay ρ vs vs'→(callFunc f ⟨vs'⟩).run P w=.ok (.enter f ⟨vs'⟩) w∧
  CallsIn Fence.wide 0 P f ⟨vs'⟩ w fun e w'=>∃v τ ρ' v',Q v τ∧e=.returned v'∧au ρ' v v'∧ij 0 ρ σ w ρ' τ w'
theorem ag.n {f:FuncId} {vs:List V} {Q:ah} (h:ag P f vs Q σ):bW P f vs Q σ:=by
 have h:=h.h
 refine⟨?_,fun ρ w vs' hr hv=>?_⟩
 ·obtain⟨⟨o,τ⟩,hx⟩:=h.1
  cases o with
  | val v=>exact⟨v,τ,hx⟩
  | exit e a=>exact hx.elim
 ·obtain⟨g1,g2⟩:=cC.at h ρ w vs' hr hv
  refine⟨g1,g2.mono fun e w' hx=>?_⟩
  obtain⟨v,τ,ρ',v',h1,h2,h3,h4⟩:=hx
  exact⟨v,τ,ρ',v',h1,h2,h3,ij.of (Nat.zero_le _) h4⟩
theorem bW.code [eQ P] {f:FuncId} {g:Func} {c:Code} {vs:List V} {Q:ah} (hf:P.funcs[f]? =some g) (hb:g.body=some c) (hn:(g.name== "runtime.NumGoroutine")=false)
  (h:bM P 0 c (pX P g Q) (my g.ntmps vs) σ):bW P f vs Q σ:=by
 have Ay:∀ {a:Act} {τ:St},(match a.defers with
   | []=>AG Q τ (fc P a τ g.results.toList)
   | _=>kQ P (.leave g a) (lS Q) τ)→cC P (.leave g a) τ (lS Q):=fun h=>mT h
 refine⟨?_,fun ρ w vs' hr hv=>⟨mQ hf hb hn _,callsIn_of_wp_marks hf hb trivial (wpIn_mono (h.h (Nat.zero_le _) ρ w _ hr (vN hv g.ntmps)) fun e aT aL ee=>?_)⟩⟩
 ·obtain⟨e,a,τ,hx⟩:=h.ex
  have key:cC P (.leave g a) τ (lS Q)→∃v τ,Q v τ:=fun h=>by
   obtain⟨⟨o,τ⟩,hx⟩:=h.1
   cases o with
   | val v=>exact⟨v,τ,hx⟩
   | exit e a=>exact hx.elim
  cases e with
  | normal=>exact key (Ay hx)
  | ret=>exact key (Ay hx)
  | exit i=>exact hx.elim
  | goto i=>exact hx.elim
 ·obtain⟨e,b,σ',ρ',h1,rfl,h3,h4⟩:=ee
  have fin:cC P (.leave g b) σ' (lS Q)→LeavesInM Fence.wide 0 P g aT.tmps (fun e w'=>∃v τ ρ' v',Q v τ∧e=.returned v'∧au ρ' v v'∧ij 0 ρ σ w ρ' τ w') aT.defers .returning aL:=fun h=>
   LeavesInM.mono (cC.at h ρ' aL aT h4.r h3) fun e w' hx=>by
    obtain⟨v,τ,D6,v',k1,k2,k3,k4⟩:=hx
    exact⟨v,τ,D6,v',k1,k2,k3,h4.trans (ij.of (Nat.zero_le _) k4)⟩
  cases e with
  | normal=>exact fin (Ay h1)
  | ret=>exact fin (Ay h1)
  | exit i=>exact h1.elim
  | goto l=>exact h1.elim
theorem bl.jR [eQ P] {f:FuncId} {g:Func} {call:FuncId→List V→St→ah→Prop} {vs:List V} {Q:ah} {live:Nat→List Nat} (F:bl P f g) (eD:∀ {f vs σ k},call f vs σ k→ag P f vs k σ) (N:Nat) (hN:aR (g.body.getD .skip)=N)
  {α:Type} {r:α→α→Prop} (wf:WellFounded r) (μ:Nat→List SV→α) (I:Nat→List SV→Prop) (hc:∀k ss,I k ss→∀s∈ss,s.clean)
  (vY:WE P f g call 0 live I Q vs σ)
  (mP:∀k,k<N→∀ss,I k ss→WL P f g call 0 live (fun k' fE=>I k' fE∧r (μ k' fE) (μ k ss)) Q k ss):
  bW P f vs Q σ:=by
 have hL:=cT.cf (fn:=f) (call:=call) (n₀:=0) (size:=g.ntmps) (live:=live) (Q:=pX P g Q) (fun h=>eD h) F.hp wf μ I hc fun k x hx ss hI=>by
  have hk:k<N:=by
   rw[←hN,←dX]
   exact(List.getElem?_eq_some_iff.1 hx).1
  have e:x=lp (g.body.getD .skip) k:=by unfold lp;rw[hx];rfl
  subst e
  exact mP k hk ss hI
 have hK:(KF P call 0 g.ntmps live I).Ob 0:=⟨⟨fun h=>eD h,fun h=>h⟩,fun h=>bM.of h⟩
 exact bW.code F.hf F.hb F.hn (bM.ia hK (g.body.getD .skip) (i:=0) (fun _ _ _ h=>h) (fun j z hz a τ dQ hA=>by
  rw[Nat.zero_add] at hA
  obtain⟨fE,g1,g3⟩:=tA (show mV 0 g.ntmps (live j) a τ _ from hA)
  obtain⟨m,hf⟩:=g3 (hc j fE g1)
  exact(hL j z hz fE g1).Cq hf) vY)
theorem bl.ck [eQ P] {f:FuncId} {g:Func} {call:FuncId→List V→St→ah→Prop} {vs:List V} {Q:ah} {live:Nat→List Nat} (F:bl P f g) (eD:∀ {f vs σ k},call f vs σ k→ag P f vs k σ) (hN:aR (g.body.getD .skip)=0)
  (h:WE P f g call 0 live (fun _ _=>False) Q vs σ):bW P f vs Q σ:=
 F.jR eD 0 hN Nat.lt_wfRel.wf (fun _ _=>0) (fun _ _=>False) (fun _ _ h=>h.elim) h fun k hk=>absurd hk (Nat.not_lt_zero k)
theorem ag.frame {f:FuncId} {vs us:List V} {σ₀:St} {Q YH:ah} {m:Nat→Option Nat} (hm:∀i j c,m i=some c→m j=some c→i=j) (XF:∀i,σ₀.next≤i→m i=none)
  (hb:∀i k,σ₀.heap.get i=some k→∃c k',m i=some c∧σ.heap.get c=some k'∧fD m k k') (hv:eZ m us vs)
  (h:bW P f us YH σ₀) (hq:∀v τ,YH v τ→∃(m':Nat→Option Nat) (v':V) (σ':St),eL m' v' v∧σ.next≤σ'.next∧(∀i j c,m' i=some c→m' j=some c→i=j)∧(∀i,σ'.next≤i→m' i=none)∧(∀i,i<σ.next→m' i=none)∧
   (∀i k,σ'.heap.get i=some k→(σ.heap.get i=some k∧∀j k',σ₀.heap.get j=some k'→m j≠some i)∨∃c k',m' i=some c∧τ.heap.get c=some k'∧fD m' k k')∧Q v' σ'):ag P f vs Q σ:=by
 refine⟨⟨?_,?_⟩⟩
 ·obtain⟨v,τ,hx⟩:=h.ex
  obtain⟨_,v',σ',_,_,_,_,_,_,h3⟩:=hq v τ hx
  exact⟨(.val v',σ'),h3⟩
 ·intro ρ w vs' hr gA
  have Df:∀ {c},Wr (ρ.pull m) σ₀ c→Wr ρ σ c:=by
   rintro c ⟨i,k,l,h1,_,h3,h4⟩
   obtain⟨j,k',e1,e2,_⟩:=hb i k h1
   exact⟨j,k',l,e2,rfl,(aA.du e1).symm.trans h3,h4⟩
  have zC:R (ρ.pull m) σ₀ w:=by
   refine⟨fun i k hk=>?_,fun i j k k' l l' h1 h2 g1 g2 e=>?_,fun i hi=>?_,fun i l hl=>?_,fun c o x hx=>⟨(hr.aV c o x hx).1,fun hw=>(hr.aV c o x hx).2 (Df hw)⟩,hr.laid⟩
   ·obtain⟨c,k',e1,e2,e3⟩:=hb i k hk
    obtain⟨l,hl,cE⟩:=hr.di c k' e2
    exact⟨l,(aA.du e1).trans hl,e3.ok cE⟩
   ·obtain⟨c,q,e1,e2,_⟩:=hb i k h1
    obtain⟨d,q',N9,Yf,_⟩:=hb j k' h2
    have:=hr.inj c d q q' l l' e2 Yf ((aA.du e1).symm.trans g1) ((aA.du N9).symm.trans g2) e
    subst this
    exact hm i j c e1 N9
   ·show(m i).bind ρ.at'=none
    rw[XF i hi];rfl
   ·obtain⟨c,_,hc⟩:=aA.qL hl
    exact hr.valid c l hc
  obtain⟨g1,g2⟩:=h.h (ρ.pull m) w vs' zC (hv.rel gA)
  refine⟨g1,g2.mono fun e w' hx=>?_⟩
  obtain⟨v,τ,bz,x,hx,rfl,mS,aF⟩:=hx
  obtain⟨m',v',σ',m8,hn,agt,YI,QV,nQ,h3⟩:=hq v τ hx
  let bm:aA:=⟨fun i=>if i<σ.next then ρ i else(m' i).bind bz.at',bz.aV⟩
  have yg:∀c o x,ρ.aV c o=some x→bz.aV c o=some x:=aF.aV
  have hold:∀c,c<w.heap.size→¬Wr (ρ.pull m) σ₀ c→w'.heap[c]? =w.heap[c]? :=aF.aQ
  have bE:∀ {b l},ρ b=some l→b<σ.next:=fun {b l} hb=>by
   refine Nat.lt_of_not_le fun hle=>?_
   rw[hr.fresh b hle] at hb;cases hb
  have hle:ρ.le bm:=⟨fun b l hb=>by
   show(if b<σ.next then ρ b else _)=some l
   rw[if_pos (bE hb)];exact hb,yg⟩
  have LP:(bz.pull m').le bm:=⟨fun b l hb=>by
   show(if b<σ.next then ρ b else(m' b).bind bz.at')=some l
   by_cases Ua:b<σ.next
   ·obtain⟨c,hc,_⟩:=aA.qL hb
    rw[QV b Ua] at hc;cases hc
   ·rw[if_neg Ua];exact hb,fun c o x h=>h⟩
  have Dg:∀ {i k l},σ.heap.get i=some k→(∀j k',σ₀.heap.get j=some k'→m j≠some i)→ρ i=some l→¬Wr (ρ.pull m) σ₀ l.c:=by
   rintro i k l hk pH hl ⟨j,k',l',h1,_,h3,h4⟩
   obtain⟨c,q,e1,e2,_⟩:=hb j k' h1
   have hc:ρ c=some l':=(aA.du e1).symm.trans h3
   have:=hr.inj c i q k l' l e2 hk hc hl h4
   subst this
   exact pH j k' h1 e1
  have fW:∀ {i c l},m' i=some c→bm i=some l→bz c=some l∧σ.next≤i:=by
   intro i c l hi hl
   have jq:¬i<σ.next:=fun bE=>by rw[QV i bE] at hi;cases hi
   replace hl:(if i<σ.next then ρ i else(m' i).bind bz.at')=some l:=hl
   rw[if_neg jq,hi] at hl
   exact⟨hl,by omega⟩
  have acJ:∀ {i c l},m' i=some c→bz c=some l→bm i=some l:=by
   intro i c l hi hl
   exact LP i l ((aA.du hi).trans hl)
  have mi:∀ {i l},i<σ.next→bm i=some l→ρ i=some l:=by
   intro i l hi hl
   replace hl:(if i<σ.next then ρ i else(m' i).bind bz.at')=some l:=hl
   rw[if_pos hi] at hl;exact hl
  have QW:∀ {i c k' l},m' i=some c→τ.heap.get c=some k'→bm i=some l→l.c<w.heap.size→Wr (ρ.pull m) σ₀ l.c:=by
   intro i c k' l hi hk hl bE
   exact aF.wr l.c bE ⟨c,k',l,hk,rfl,(fW hi hl).1,rfl⟩
  have so:∀ {i k},σ.heap.get i=some k→∃l,ρ i=some l∧i<σ.next∧l.c<w.heap.size:=by
   intro i k hk
   obtain⟨l,hl,_⟩:=hr.di i k hk
   exact⟨l,hl,bE hl,hr.valid i l hl⟩
  have acK:R bm σ' w':=by
   refine⟨fun i k hk=>?_,fun i j k k' l l' h1 h2 g1 g2 e=>?_,fun i hi=>?_,fun i l hl=>?_,fun c o x hx=>⟨(aF.r.aV c o x hx).1,?_⟩,aF.r.laid⟩
   ·rcases nQ i k hk with ⟨h1,pH⟩ | ⟨c,k',h1,h2,h4⟩
    ·obtain⟨l,hl,cE⟩:=hr.di i k h1
     exact⟨l,hle i l hl,cE.same hle (hold l.c (hr.valid i l hl) (Dg h1 pH hl))⟩
    ·obtain⟨l,hl,cE⟩:=aF.r.di c k' h2
     exact⟨l,acJ h1 hl,fN.same (h4.ok cE) LP rfl⟩
   ·rcases nQ i k h1 with ⟨a1,Ub⟩ | ⟨c,q,a1,a2,_⟩<;>rcases nQ j k' h2 with ⟨b1,no2⟩ | ⟨d,q',b1,b2,_⟩
    ·obtain⟨_,_,li,_⟩:=so a1
     obtain⟨_,_,lj,_⟩:=so b1
     exact hr.inj i j k k' l l' a1 b1 (mi li g1) (mi lj g2) e
    ·obtain⟨_,e1,li,lc⟩:=so a1
     have gi:=mi li g1
     rw[gi] at e1;cases e1
     exact absurd (by rw[e];exact QW b1 b2 g2 (by rw[←e];exact lc)) (Dg a1 Ub gi)
    ·obtain⟨_,e1,lj,lc⟩:=so b1
     have gj:=mi lj g2
     rw[gj] at e1;cases e1
     exact absurd (by rw[←e];exact QW a1 a2 g1 (by rw[e];exact lc)) (Dg b1 no2 gj)
    ·have:=aF.r.inj c d q q' l l' a2 b2 (fW a1 g1).1 (fW b1 g2).1 e
     subst this
     exact agt i j c a1 b1
   ·show(if i<σ.next then ρ i else(m' i).bind bz.at')=none
    rw[if_neg (by omega),YI i hi];rfl
   ·by_cases hi:i<σ.next
    ·exact Nat.lt_of_lt_of_le (hr.valid i l (mi hi hl)) aF.size
    ·replace hl:(if i<σ.next then ρ i else(m' i).bind bz.at')=some l:=hl
     rw[if_neg hi] at hl
     obtain⟨c,_,hc⟩:=aA.qL (ρ:=bz) (m:=m') hl
     exact aF.r.valid c l hc
   ·rintro⟨i,k,l,h1,_,hl,rfl⟩
    rcases nQ i k h1 with ⟨a1,Ub⟩ | ⟨c,q,a1,a2,_⟩
    ·obtain⟨_,e1,li,lc⟩:=so a1
     have gi:=mi li hl
     rw[gi] at e1;cases e1
     rcases aF.hH l.c o x hx with h5 | h5 | h5
     ·exact(hr.aV l.c o x h5).2 ⟨i,k,l,a1,rfl,gi,rfl⟩
     ·omega
     ·exact Dg a1 Ub gi h5
    ·exact(aF.r.aV l.c o x hx).2 ⟨c,q,l,a2,rfl,(fW a1 hl).1,rfl⟩
  refine⟨v',σ',bm,x,h3,rfl,au.mono LP (m8.rel mS),⟨acK,hle,hn,fun b l hb=>?_,aF.size,aF.os,aF.tape,aF.output,fun c hc hnw=>hold c hc fun hw=>hnw (Df hw),fun c hc hw=>?_,fun b k hb=>?_,fun c o x hx=>?_⟩⟩
  ·by_cases Ua:b<σ.next
   ·exact .inl (mi Ua hb)
   ·exact .inr (.inl (by omega))
  ·obtain⟨i,k,l,h1,_,hl,rfl⟩:=hw
   rcases nQ i k h1 with ⟨a1,Ub⟩ | ⟨c',q,a1,a2,_⟩
   ·obtain⟨_,_,li,_⟩:=so a1
    exact⟨i,k,l,a1,rfl,mi li hl,rfl⟩
   ·exact Df (QW a1 a2 hl hc)
  ·rcases nQ b k hb with ⟨a1,_⟩ | ⟨c',q,a1,a2,_⟩
   ·exact .inl ⟨k,a1⟩
   ·refine .inr (.inl (Nat.le_of_not_lt fun bE=>?_))
    rw[QV b bE] at a1;cases a1
  ·rcases aF.hH c o x hx with h5 | h5 | h5
   ·exact .inl h5
   ·exact .inr (.inl h5)
   ·exact .inr (.inr (Df h5))
omit [Env] in
theorem qP (σ:St) (id:Nat) (k:bU):(σ.new id k).next=max σ.next (id+1):=Ho _ _
def qQ (esz:Nat) (v:V) (τ:St) (n:Nat) (g:Nat→V):Prop:=
 ∃b k,τ.heap.get b=some k∧∀(m:Nat→Option Nat) (i:Nat),m i=some b→eL m (.own i n esz) v∧fD m (.row n g esz false) k
theorem qQ.own {esz b n:Nat} {g:Nat→V} {p:Bool} {τ:St} (hb:τ.heap.get b=some (.row n g esz p)) (hc:∀i,i<n→∀u∈(g i).cells,Clean u):qQ esz (.own b n esz) τ n g:=
 ⟨b,_,hb,fun _ _ hm=>⟨.own hm,.row (fun h=>by cases h) fun i hi=>eZ.clean (hc i hi)⟩⟩
theorem qQ.slice {esz b n:Nat} {g:Nat→V} {z:List V} {t:Trie V} {p:Bool} {τ:St} (hb:τ.heap.get b=some (.cells (n*esz) z t p false)) (hn:n≠0) (hu:∀i,i<n→(g i).cells.length=esz)
  (hc:∀i,i<n→∀k v,(g i).cells[k]? =some v→cellOf (n*esz) z t (i*esz+k)=some v∧Clean v):qQ esz (.slice b 0 n n false esz) τ n g:=
 ⟨b,_,hb,fun _ _ hm=>⟨.Lk hm hn,.wJ (fun h=>by cases h) hu fun i hi k v hv=>⟨v,(hc i hi k v hv).1,.clean (hc i hi k v hv).2⟩⟩⟩
def eY (esz:Nat) (A:Nat→(Nat→V)→Prop) (v:V) (τ:St):Prop:=∃n g,qQ esz v τ n g∧A n g
theorem YJ {esz:Nat} {A:Nat→(Nat→V)→Prop} {κ:St} {σ₀:St} {m:Nat→Option Nat} {k:ah} (vF:∀i k,κ.heap.get i=some k→σ.heap.get i=some k∧∀j k',σ₀.heap.get j=some k'→m j≠some i) (hn:κ.next=σ.next)
  (hk:∀n g,A n g→k (.own σ.next n esz) (κ.new σ.next (.row n g esz false))):∀v τ,eY esz A v τ→∃(m':Nat→Option Nat) (v':V) (σ':St),eL m' v' v∧σ.next≤σ'.next∧(∀i j c,m' i=some c→m' j=some c→i=j)∧(∀i,σ'.next≤i→m' i=none)∧(∀i,i<σ.next→m' i=none)∧
   (∀i k,σ'.heap.get i=some k→(σ.heap.get i=some k∧∀j k',σ₀.heap.get j=some k'→m j≠some i)∨∃c k',m' i=some c∧τ.heap.get c=some k'∧fD m' k k')∧k v' σ':=by
 rintro v τ ⟨n,g,⟨b,q,hb,hr⟩,hA⟩
 have hr:=hr (fun i=>if i=σ.next then some b else none) σ.next (if_pos rfl)
 refine⟨fun i=>if i=σ.next then some b else none,.own σ.next n esz,κ.new σ.next (.row n g esz false),hr.1,?_,fun i j c h1 h2=>?_,fun i hi=>?_,fun i hi=>if_neg (by omega),fun i k hi=>?_,hk n g hA⟩
 ·rw[qP];omega
 ·by_cases e1:i=σ.next
  ·by_cases e2:j=σ.next
   ·rw[e1,e2]
   ·simp only[if_neg e2] at h2;cases h2
  ·simp only[if_neg e1] at h1;cases h1
 ·rw[qP] at hi
  exact if_neg (by omega)
 ·rw[iq] at hi
  by_cases e:i=σ.next
  ·rw[if_pos e] at hi;cases hi
   exact .inr ⟨b,_,if_pos e,hb,hr.2⟩
  ·rw[if_neg e] at hi
   exact .inl (vF i k hi)
theorem cT.sub {n₀:Nat} {x:Code} {Q:cp} {a b:Act} {σ:St} (hs:∀i v,a.tmps.get i=some v→b.tmps.get i=some v) (hz:a.size=b.size) (hd:a.defers=b.defers) (h:cT P n₀ x Q a σ):cT P n₀ x Q b σ:=
 ⟨h.ex,fun hn ρ w a' hr ha=>h.h hn ρ w a' hr ⟨fun i v hv=>ha.tmps i v (hs i v hv),hz.trans ha.size,by rw[hd];exact ha.defers⟩⟩
def Fg (Q:Act→St→Prop) (a:Act) (l:Nat) (σ:St):Prop:=
 match σ.heap.get l with
 | some (.loop .ready none fn t s ps ak9 bo d)=>Q a ((σ.set l (.loop .exhausted none fn t s ps ak9 bo d)).kill l)
 | _=>False
theorem cr.range {fn:FuncId} {f:Operand} {ps:Array Tmp} {ak9 bo:Code} {Q:cp} {t:bK V} {z:Nat} {ds:List (Option (Fn×List V)×Nat×List V)} {g:FuncId} {x y:List V} (hf:Act.eval ⟨t,z,ds⟩ f=some (.func (.func g) x y))
  (h:ag P g (app x (app [.func (.yield (σ.new σ.next .deferred).next) [] []] y)) (fun _ τ=>Fg (Q .normal) ⟨t,z,(none,σ.next,[])::ds⟩ (σ.new σ.next .deferred).next τ)
   ((σ.new σ.next .deferred).new (σ.new σ.next .deferred).next (.loop .ready none fn t z ps.toList ak9 bo σ.next))):cr P fn none (.rangeFunc f ps ak9 bo) Q ⟨t,z,ds⟩ σ:=by
 constructor
 show(oW (dh P) none fn ⟨t,z,ds⟩ σ ps.toList ak9 bo (Act.eval ⟨t,z,ds⟩ f)).ar (kq Q)
 rw[hf]
 show((dh P (.call g (app x (app [.func (.yield (σ.new σ.next .deferred).next) [] []] y))) ((σ.new σ.next .deferred).new (σ.new σ.next .deferred).next (.loop .ready none fn t z ps.toList ak9 bo σ.next))).bind (Ni (dh P) none fn ⟨t,z,(none,σ.next,[])::ds⟩ (σ.new σ.next .deferred).next)).ar _
 refine bw.ar.dk (cC.mono (fun⟨o,τ⟩ hx=>?_) h.h)
 cases o with
 | exit e a=>exact hx.elim
 | val v=>
  have hx:Fg (Q .normal) ⟨t,z,(none,σ.next,[])::ds⟩ (σ.new σ.next .deferred).next τ:=hx
  show(sU (dh P) none fn ⟨t,z,(none,σ.next,[])::ds⟩ (σ.new σ.next .deferred).next τ (τ.heap.get (σ.new σ.next .deferred).next)).ar (kq Q)
  revert hx
  unfold Fg
  split
  ·rename_i hg
   rw[hg]
   exact fun hx=>hx
  ·exact fun h=>h.elim
theorem kQ.round [eQ P] {l:Nat} {vs:List V} {st:LoopState} {p:Option Code} {fn:FuncId} {t t':bK V} {z:Nat} {ps:List Tmp} {ak9 bo:Code} {d:Nat} {k:ah} (hl:σ.heap.get l=some (.loop st p fn t z ps ak9 bo d)) (ht:l6 t z ps vs=some t')
  (h:cr P fn (some l) ak9 (fun e a τ=>e=.normal∧a.defers=[]∧∃p' OF z',τ.heap.get l=some (.loop .ready p' fn OF z' ps ak9 bo d)∧cr P fn (some l) bo (fun e _ τ=>e=.normal∧∃K5 PW pR QX,τ.heap.get l=some (.loop K5 PW fn pR QX ps ak9 bo d)∧k (.bool true) (τ.set l (.loop .ready none fn pR QX ps ak9 bo d))) a (τ.set l (.loop .busy p' fn OF z' ps ak9 bo d))) ⟨t',z,[]⟩ σ):kQ P (.round l vs) (lS k) σ:=by
 refine⟨.kP ?_⟩
 show(qz (dh P) l vs σ (σ.heap.get l)).ar _
 rw[hl]
 show(vi (dh P) l fn z ak9 bo σ (l6 t z ps vs)).ar _
 rw[ht]
 show((dh P (.code (some l) fn ak9 {tmps:=t',size:=z,defers:=[]}) σ).bind (xg (dh P) l fn bo)).ar _
 refine bw.ar.dk (cC.mono (fun⟨o,τ⟩ hx=>?_) h.vU)
 cases o with
 | val v=>exact hx.elim
 | exit e a=>
  obtain⟨rfl,hd,p',OF,z',hg,hb⟩:=(show _∧_ from hx)
  show(qy (dh P) l fn bo a τ (τ.heap.get l)).ar _
  rw[hg]
  show(match a.defers with
   | []=>(dh P (.code (some l) fn bo a) (τ.set l (.loop .busy p' fn OF z' ps ak9 bo d))).bind (DI l)
   | _=>.fail "round: defers":Run).ar _
  rw[hd]
  show((dh P (.code (some l) fn bo a) (τ.set l (.loop .busy p' fn OF z' ps ak9 bo d))).bind (DI l)).ar _
  refine bw.ar.dk (cC.mono (fun⟨o,υ⟩ hx=>?_) hb.vU)
  cases o with
  | val v=>exact hx.elim
  | exit e b=>
   obtain⟨rfl,K5,PW,pR,QX,acL,hk⟩:=(show _∧_ from hx)
   show(sV l .normal υ (υ.heap.get l)).ar _
   rw[acL]
   exact hk
theorem kQ.qw [eQ P] {fn:Func} {t:bK V} {z d:Nat} {Q:ah} {us:List V} (hd:σ.heap.get d=some .deferred) (h:AG Q (σ.kill d) (fc P ⟨t,z,[]⟩ (σ.kill d) fn.results.toList)):kQ P (.leave fn ⟨t,z,[(none,d,us)]⟩) (lS Q) σ:=by
 refine⟨.kP ?_⟩
 show(Go.Ev.qw (dh P) fn ⟨t,z,[]⟩ d σ (σ.heap.get d)).ar _
 rw[hd]
 exact mT (a:=⟨t,z,[]⟩) h
structure YK (n₀:Nat) (m:Nat→Option Nat) (a:Act) (σ:St) (b:Act) (τ:St):Prop where
 Cq:pY n₀ m ⟨[],0,[]⟩ σ ⟨[],0,[]⟩ τ
 size:a.size=b.size
 zr:∀i v,a.tmps.get i=some v→∃u,b.tmps.get i=some u∧eL m v u
 defers:(a.defers=[]∧b.defers=[])∨∃d d' us,a.defers=[(none,d,us)]∧b.defers=[(none,d',us)]∧m d=some d'
theorem YK.act {n₀:Nat} {m:Nat→Option Nat} {a b:Act} {τ:St} {ρ:aA} (h:YK n₀ m a σ b τ) {a':Go.Act} (ha:bD ρ b a'):bD (ρ.pull m) a a':=by
 refine⟨fun i v hv=>?_,h.size.trans ha.size,?_⟩
 ·obtain⟨u,hu,hr⟩:=h.zr i v hv
  obtain⟨x,hx,sn⟩:=ha.tmps i u hu
  exact⟨x,hx,hr.rel sn⟩
 ·have hd:=ha.defers
  rcases h.defers with ⟨e1,e2⟩ | ⟨d,d',us,e1,e2,hm⟩
  ·rw[e2] at hd
   rw[e1]
   generalize a'.defers=d at hd⊢
   cases hd
   exact .nil
  ·rw[e2] at hd
   rw[e1]
   generalize a'.defers=d at hd⊢
   cases hd with
   | cons h1 h2=>
    cases h2
    cases h1 with
    | mark HJ=>exact .cons (.mark ((aA.du hm).trans HJ)) .nil
theorem bM.sub {n₀:Nat} {x:Code} {Q:cp} {a b:Act} {σ:St} (hs:∀i v,a.tmps.get i=some v→b.tmps.get i=some v) (hz:a.size=b.size) (hd:a.defers=b.defers) (h:bM P n₀ x Q a σ):bM P n₀ x Q b σ:=
 ⟨h.ex,fun hn ρ w a' hr ha=>h.h hn ρ w a' hr ⟨fun i v hv=>ha.tmps i v (hs i v hv),hz.trans ha.size,by rw[hd];exact ha.defers⟩⟩
theorem bM.Cq {n₀:Nat} {m:Nat→Option Nat} {a b:Act} {τ:St} {c:Code} {Q:cp} (hf:pY n₀ m a σ b τ) (h:bM P n₀ c Q a σ):bM P n₀ c Q b τ:=by
 have hq:∀(ρ:aA) (w:World) e a' w',dY n₀ Q (ρ.pull m) σ w e a' w'→dY n₀ Q ρ τ w e a' w':=by
  rintro ρ w e a' w' ⟨y,aY,bL,bm,h1,h2,h3,h4⟩
  exact⟨y,aY,bL,bm,h1,h2,h3,hf.stp h4⟩
 exact⟨h.ex,fun hn ρ w a' hr ha=>wpIn_mono (h.h hf.le (ρ.pull m) w a' (hf.r hr) (hf.act ha)) fun e aT aL hx=>hq ρ w e aT aL hx⟩
end
end Go.Ev
end
section
namespace Go.Proofs.YtbajncpfmemdgaaGreatDoor
open Go Go.Ev
def qR (n:Nat) (f:Nat→V) (L:List UInt8):Prop:=n=L.length∧∀i,i<n→(f i).cells=[V.int .u8 (aw L i)]
theorem js {L:List UInt8} {i:Nat} (h:i<L.length):aw L i=(L[i]:UInt8).toNat:=by
 unfold aw
 rw[ea,List.getElem?_eq_getElem h]
theorem xH:∀L:List UInt8,eI (L.map fun c=>V.int .u8 c.toNat)=some L
 | []=>rfl
 | c::L=>by
  show(eI (L.map fun c=>V.int .u8 c.toNat)).map _=_
  rw[xH L]
  show some (UInt8.ofNat ((c.toNat:Nat):Int).toNat::L)=_
  rw[Int.toNat_natCast,UInt8.ofNat_toNat]
theorem uM:∀(es:List V) (us:List V),es.length=us.length→(∀(i:Nat) (v u:V),es[i]? =some v→us[i]? =some u→v.cells=[u])→ax es=us
 | [],[],_,_=>rfl
 | v::es,u::us,hl,h=>by
  rw[ca,h 0 v u rfl rfl,uM es us (by simpa using hl) fun i a b ha hb=>h (i+1) a b ha hb]
  rfl
theorem qR.cells {n:Nat} {f:Nat→V} {L:List UInt8} (h:qR n f L):ax (cn n f)=L.map fun c=>V.int .u8 c.toNat:=by
 refine uM _ _ (by rw[bg,List.length_map];exact h.1) fun i v u hv hu=>?_
 have hi:i<n:=by
  have:=(List.getElem?_eq_some_iff.1 hv).1
  rwa [bg] at this
 rw[dB hi] at hv
 cases hv
 rw[h.2 i hi]
 have hL:i<L.length:=by rw[←h.1];exact hi
 rw[List.getElem?_map,List.getElem?_eq_getElem hL] at hu
 cases hu
 rw[js hL]
theorem qR.bytes {n:Nat} {f:Nat→V} {L:List UInt8} (h:qR n f L):eI (ax (cn n f))=some L:=by rw[h.cells,xH]
def byteOf (x:Int):UInt8:=UInt8.ofNat x.toNat
theorem v7 {x:Int} (h0:0≤x) (h1:x<256):((byteOf x).toNat:Int)=x:=by
 unfold byteOf
 rw[UInt8.toNat_ofNat']
 omega
theorem qR.one {g:Nat→V} {x:Int} (h0:0≤x) (h1:x<256) (hg:(g 0).cells=[V.int .u8 x]):qR 1 g [byteOf x]:=
 ⟨rfl,fun i hi=>by
  obtain rfl:i=0:=by omega
  rw[hg,js (by simp)]
  show _=[V.int .u8 ((byteOf x).toNat:Int)]
  rw[v7 h0 h1]⟩
theorem rV (n:Nat) (f g:Nat→V) (j:Nat):dL n f g j=if j<n then f j else g (j-n):=by
 have e:dL n f g j=Bool.rec (g (j-n)) (f j) (Nat.blt j n):=rfl
 rw[e]
 by_cases h:j<n
 ·rw[if_pos h,show Nat.blt j n=true from Nat.ble_eq_true_of_le h]
 ·rw[if_neg h]
  have:Nat.blt j n=false:=by
   cases hb:Nat.blt j n with
   | false=>rfl
   | true=>exact absurd (Nat.le_of_ble_eq_true hb) h
  rw[this]
theorem tF {L M:List UInt8} {i:Nat} (h:i<L.length):aw (L++M) i=aw L i:=by
 rw[js (by rw[List.length_append];omega),js h,List.getElem_append_left h]
theorem xI {L M:List UInt8} {i:Nat} (h:L.length≤i) (h2:i<L.length+M.length):aw (L++M) i=aw M (i-L.length):=by
 rw[js (by rw[List.length_append];omega),js (by omega),List.getElem_append_right h]
theorem qR.append {n m:Nat} {f g:Nat→V} {L M:List UInt8} (h:qR n f L) (k:qR m g M):qR (n+m) (dL n f g) (L++M):=by
 refine⟨by rw[List.length_append,h.1,k.1],fun i hi=>?_⟩
 have hl:=h.1
 have km:=k.1
 rw[rV]
 by_cases cW:i<n
 ·rw[if_pos cW,h.2 i cW,tF (by omega)]
 ·rw[if_neg cW,k.2 (i-n) (by omega),xI (by omega) (by omega),←hl]
theorem qR.agu {v:V} {x:Int} (h0:0≤x) (h1:x<256) (hv:v.cells=[V.int .u8 x]):qR 1 (sJ [v]) [byteOf x]:=.one h0 h1 hv
theorem QY (x:Int):0≤IntKind.u8.wrap x∧IntKind.u8.wrap x<256:=by
 have:IntKind.u8.wrap x=x%256:=rfl
 omega
end Go.Proofs.YtbajncpfmemdgaaGreatDoor
end
