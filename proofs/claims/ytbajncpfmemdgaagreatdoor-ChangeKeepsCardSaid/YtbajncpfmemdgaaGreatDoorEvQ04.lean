/- Proved: parts of the way: OpsC. -/
import Derived.Test.YtbajncpfmemdgaaGreatDoorEvQ03
set_option linter.unusedVariables false
set_option linter.unusedSimpArgs false
namespace Go.Ev
open Go
section
variable {P:Program} {ρ:Ren} {σ:St} {w:World} {id:Nat} {p:V×St→Prop}
inductive OV [Env] (ρ:Ren):Option V→Option Value→Prop
 | none:OV ρ none none
 | some {v:V} {x:Value} (h:aq ρ v x):OV ρ (some v) (some x)
theorem bC.hZ [Env] {a:Act} {a':Go.Act} (h:bC ρ a a') {x:Option Operand} {v:Option V} (hv:hZ a x=some v):OV ρ v (x.map a'.eval):=by
 cases x with
 | none=>cases hv;exact .none
 | some x=>
  have mf:(a.eval x).map some=some v:=hv
  rw[Option.map_eq_some_iff] at mf
  obtain⟨u,hu,rfl⟩:=mf
  exact .some (h.eval x hu)
theorem dL [Env] {hi y:Nat} {v:V} {n:Nat} (h:asNat 0 hi v=some n) {x:Value} (hx:aq ρ v x) (hy:hi≤y) (code:BoundsCode) (w:World):
  (Instr.sliceBound x y code).run P w=.ok n w∧n≤hi:=by
 unfold asNat at h
 split at h
 ·split at h
  ·rename_i k i hc
   cases h;cases hx
   have h0:0≤i∧i≤(y:Int):=⟨by simpa using hc.1,by omega⟩
   refine⟨?_,by omega⟩
   simp only[Instr.sliceBound,asIntOf,Sem.run_bind,Sem.run_pure,Result.andThen_ok]
   rw[if_pos h0];rfl
  ·cases h
 ·cases h
theorem fX [Env] {n cap cap':Nat} (hc:cap≤cap') {lo hi mx:Option V} {l hh m:Nat} (h:bounds n cap lo hi mx=some (l,hh,m)) {ti eR tj:Option Value} (h1:OV ρ lo ti) (h2:OV ρ hi eR) (h3:OV ρ mx tj)
  (isS:Bool) (w:World):(Instr.sliceBounds isS n cap' ti eR tj).run P w=.ok (l,hh,if mx.isSome then m else cap') w∧l≤hh∧m≤cap∧(mx.isSome=false→m=cap)∧(hi.isSome=true→hh≤m)∧(mx.isSome=true→hh≤m)∧(hi.isSome=false→hh=n):=by
 unfold bounds at h
 cases h3 with
 | none=>
  dsimp only at h
  cases h2 with
  | none=>
   dsimp only at h
   cases h1 with
   | none=>cases h;refine⟨by simp [Instr.sliceBounds],by omega,by omega,by simp,by simp,by simp,by simp⟩
   | some h1=>
    dsimp only at h
    split at h
    ·cases h
    ·rename_i l' hl
     cases h
     obtain⟨r1,b1⟩:=dL (P:=P) hl h1 (Nat.le_refl _) .sliceB w
     exact⟨by simp [Instr.sliceBounds,r1],b1,by omega,by simp,by simp,by simp,by simp⟩
  | some h2=>
   dsimp only at h
   split at h
   ·cases h
   ·rename_i h' JK
    have r2:=fun code=>(dL (P:=P) JK h2 hc code w).1
    have Yd:=(dL (P:=P) JK h2 hc .sliceAlen w).2
    cases h1 with
    | none=>
     cases h
     refine⟨?_,by omega,by omega,by simp,by simpa using Yd,by simp,by simp⟩
     simp [Instr.sliceBounds,r2]
    | some h1=>
     dsimp only at h
     split at h
     ·cases h
     ·rename_i l' hl
      cases h
      obtain⟨r1,b1⟩:=dL (P:=P) hl h1 (Nat.le_refl _) .sliceB w
      refine⟨?_,b1,by omega,by simp,by simpa using Yd,by simp,by simp⟩
      simp [Instr.sliceBounds,r2,r1]
 | some h3=>
  dsimp only at h
  split at h
  ·cases h
  ·rename_i m' hm
   have r3:=fun code=>(dL (P:=P) hm h3 hc code w).1
   have b3:=(dL (P:=P) hm h3 hc .sliceAlen w).2
   cases h2 with
   | none=>dsimp only at h;cases h
   | some h2=>
    dsimp only at h
    split at h
    ·cases h
    ·rename_i h' JK
     have r2:=fun code=>(dL (P:=P) JK h2 (Nat.le_refl _) code w).1
     have b2:=(dL (P:=P) JK h2 (Nat.le_refl _) .sliceAlen w).2
     cases h1 with
     | none=>
      cases h
      refine⟨?_,by omega,b3,by simp,by simpa using b2,by simpa using b2,by simp⟩
      simp [Instr.sliceBounds,r3,r2]
     | some h1=>
      dsimp only at h
      split at h
      ·cases h
      ·rename_i l' hl
       cases h
       have r1:=fun code=>(dL (P:=P) hl h1 (Nat.le_refl _) code w).1
       have b1:=(dL (P:=P) hl h1 (Nat.le_refl _) .sliceAlen w).2
       refine⟨?_,b1,b3,by simp,by simpa using b2,by simpa using b2,by simp⟩
       simp [Instr.sliceBounds,r3,r2,r1]
theorem yV {es:List V} {esz:Nat} (h:∀v∈es,v.cells.length=esz) (n:Nat):ar (es.take n)=(ar es).take (n*esz):=by
 induction es generalizing n with
 | nil=>simp [ar]
 | cons v es ih=>cases n with
  | zero=>simp [ar]
  | succ n=>
   have hv:=h v List.mem_cons_self
   rw[List.take_succ_cons,bS,bS,ih (fun u hu=>h u (List.mem_cons_of_mem _ hu)),Nat.add_mul,Nat.one_mul,Nat.add_comm (n*esz),←hv,List.take_length_add_append]
theorem mr {es:List V} {esz:Nat} (h:∀v∈es,v.cells.length=esz) (n:Nat):ar (es.drop n)=(ar es).drop (n*esz):=by
 induction es generalizing n with
 | nil=>simp [ar]
 | cons v es ih=>cases n with
  | zero=>simp
  | succ n=>
   have hv:=h v List.mem_cons_self
   rw[List.drop_succ_cons,bS,ih (fun u hu=>h u (List.mem_cons_of_mem _ hu)),Nat.add_mul,Nat.one_mul,Nat.add_comm (n*esz),←hv,List.drop_length_add_append]
theorem aq.part [Env] {es:List V} {esz c off l n M:Nat} {ex:Bool} {xs:List Value} (hu:∀v∈es,v.cells.length=esz) (hx:au ρ (ar es) xs) (hi:∀k x,xs[k]? =some x→ρ.aL c (off+k)=some x)
  (hl:l+n≤es.length) (hM:n≤M) (he:ex=true→M=n) {o2:Nat} (ho:n=0∨o2=off+l*esz):aq ρ (.bk (dB (dq l es) n) esz ex) (.slice (some ⟨c,o2,none⟩) n M):=by
 rw[eP,ew]
 have hlen:((es.drop l).take n).length=n:=by simp;omega
 have pr:∀v∈es.drop l,v.cells.length=esz:=fun v hv=>hu v (List.mem_of_mem_drop hv)
 have key:aq ρ (.bk ((es.drop l).take n) esz ex) (.slice (some ⟨c,o2,none⟩) ((es.drop l).take n).length M):=by
  refine .bk (xs:=(xs.drop (l*esz)).take (n*esz)) (fun v hv=>pr v (List.mem_of_mem_take hv)) ?_ (fun k x hk=>?_) (by omega) (fun h=>by rw[hlen];exact he h)
  ·rw[yV pr,mr hu]
   exact(hx.drop _).take _
  ·rw[List.getElem?_take] at hk
   split at hk
   ·rename_i ed
    rw[List.getElem?_drop] at hk
    rcases ho with h0 | h0
    ·subst h0;omega
    ·rw[h0,Nat.add_assoc];exact hi _ x hk
   ·cases hk
 rw[hlen] at key
 exact key
theorem sP [Env] {t e:TypeId} {es:List V} {esz:Nat} {ex:Bool} {v:V} {lo hi mx:Option V} (hu:P.underlying t=some (.slice e)) {sz l hh m:Nat} (bd:bN P e=some sz) (hb:bounds (len es) (len es) lo hi mx=some (l,hh,m)) (bQ:sz=esz)
  (hv:v=.bk (dB (dq l es) (hh-l)) esz ((mx.isSome||(ex&&Nat.beq hh (len es)))&&Nat.beq hh m)) {x':Value} {ti eR tj:Option Value} (hx:aq ρ (.bk es esz ex) x') (h1:OV ρ lo ti) (h2:OV ρ hi eR) (h3:OV ρ mx tj)
  (w:World):∃v',(Instr.sliceAt t x' ti eR tj).run P w=.ok v' w∧aq ρ v v':=by
 subst bQ hv
 rw[bc] at hb⊢
 cases hx with
 | bk pr hx eR hc he=>
  rename_i c off cap' xs
  obtain⟨hr,JL,Es,xM,qJ,wa,pt⟩:=fX (P:=P) hc hb h1 h2 h3 true w
  obtain⟨M,hM⟩:∃M,M=(if mx.isSome then m else cap'):=⟨_,rfl⟩
  have Ye:hh≤m:=by
   cases tk:hi.isSome with
   | true=>exact qJ tk
   | false=>
    cases kh:mx.isSome with
    | true=>exact wa kh
    | false=>rw[pt tk,xM kh];exact Nat.le_refl _
  have hmM:m≤M:=by rw[hM];split<;>omega
  have Et:m≤es.length:=Es
  obtain⟨k,rfl⟩:∃k,M=l+k:=⟨M-l,by omega⟩
  have e1:l+k-l=k:=by omega
  refine⟨.slice (some (if l+k=l then⟨c,off,none⟩ else⟨c,off+l*sz,none⟩)) (hh-l) (l+k-l),?_,?_⟩
  ·simp only[Instr.sliceAt,Sem.run_bind,run_underlying hu,Result.andThen_ok,Instr.slice,hr,br bd,←hM,Sem.run_pure]
   split<;>simp [ek]
  ·rw[e1]
   have hex:((mx.isSome||(ex&&Nat.beq hh es.length))&&Nat.beq hh m)=true→k=hh-l:=by
    intro h
    rw[Bool.and_eq_true] at h
    have g1:=Nat.eq_of_beq_eq_true h.2
    cases kh:mx.isSome with
    | true=>rw[kh,if_pos rfl] at hM;omega
    | false=>
     rw[kh] at h hM
     simp only[Bool.false_or,Bool.and_eq_true,Bool.false_eq_true,if_false] at h hM
     have g2:=Nat.eq_of_beq_eq_true h.1.2
     have g3:=he h.1.1
     omega
   by_cases jZ:l+k=l
   ·rw[if_pos jZ]
    exact aq.part pr hx eR (by omega) (by omega) hex (.inl (by omega))
   ·rw[if_neg jZ]
    exact aq.part pr hx eR (by omega) (by omega) hex (.inr rfl)
 | dO=>
  obtain⟨hr,hl,hm,_,qJ,wa,pt⟩:=fX (P:=P) (Nat.le_refl _) hb h1 h2 h3 true w
  have JM:hh=0:=by
   cases hi with
   | none=>exact pt rfl
   | some _=>have:=qJ rfl;simp at hm;omega
  have qK:(if mx.isSome then m else 0)=0:=by split<;>simp at hm<;>omega
  have BK:l=0:=by omega
  refine⟨.slice none 0 0,?_,?_⟩
  ·subst BK JM
   simp only[List.length_nil] at hr
   simp only[Instr.sliceAt,Sem.run_bind,run_underlying hu,Result.andThen_ok,Instr.slice,hr,qK,br bd]
   simp
  ·rw[eP,ew]
   simp only[List.drop_nil,List.take_nil]
   exact .dO
 | dh he=>
  rename_i cap' a
  obtain⟨hr,hl,hm,_,qJ,wa,pt⟩:=fX (P:=P) (Nat.zero_le cap') hb h1 h2 h3 true w
  have JM:hh=0:=by
   cases hi with
   | none=>exact pt rfl
   | some _=>have:=qJ rfl;simp at hm;omega
  have BK:l=0:=by omega
  obtain⟨M,hM⟩:∃M,M=(if mx.isSome then m else cap'):=⟨_,rfl⟩
  refine⟨.slice (some a) 0 M,?_,?_⟩
  ·subst BK JM
   simp only[List.length_nil] at hr
   simp only[Instr.sliceAt,Sem.run_bind,run_underlying hu,Result.andThen_ok,Instr.slice,hr,br bd,←hM,Sem.run_pure]
   split<;>simp [Addr.add]
  ·rw[eP,ew]
   simp only[List.drop_nil,List.take_nil]
   refine .dh fun h=>?_
   rw[Bool.and_eq_true] at h
   have qK:m=0:=by simp at hm;omega
   cases kh:mx.isSome with
   | true=>rw[kh,if_pos rfl] at hM;omega
   | false=>
    rw[kh] at h hM
    simp only[Bool.false_or,Bool.and_eq_true,Bool.false_eq_true,if_false] at h hM
    rw[hM];exact he h.1.1
theorem A2 [Env] {t:TypeId} {x v:V} {lo hi mx:Option V} (h:ng P t x lo hi mx=some v) {x':Value} {ti eR tj:Option Value} (hx:aq ρ x x') (h1:OV ρ lo ti) (h2:OV ρ hi eR) (h3:OV ρ mx tj)
  (w:World):∃v',(Instr.sliceAt t x' ti eR tj).run P w=.ok v' w∧aq ρ v v':=by
 unfold ng at h
 split at h
 ·rename_i s hu
  split at h
  ·cases h
  ·rename_i hmx
   have:mx=none:=by cases mx<;>simp_all
   subst this
   cases h3
   split at h
   ·rename_i l hh m hb
    cases h;cases hx
    rw[bc] at hb
    obtain⟨hr,hl,hm,_,_⟩:=fX (P:=P) (Nat.le_refl _) hb h1 h2 .none false w
    refine⟨.string ⟨⟨dq l (dB s hh)⟩⟩,?_,.str _⟩
    simp only[Instr.sliceAt,Sem.run_bind,run_underlying hu,Result.andThen_ok,Instr.slice]
    rw[show(⟨⟨s⟩⟩:ByteArray).size=s.length from rfl]
    simp only[Option.isSome_none,Bool.false_eq_true,if_false,hr,Sem.run_bind,Result.andThen_ok,Sem.run_pure]
    rw[Lib.extract_eq,ew,eP,List.drop_take]
   ·cases h
 ·rename_i e hu
  split at h
  ·rename_i sz r bd hb
   cases h;cases hx
   obtain⟨l,hh,m⟩:=r
   obtain⟨hr,hl,hm,_,qJ,wa,pt⟩:=fX (P:=P) (Nat.le_refl _) hb h1 h2 h3 true w
   have JM:hh=0:=by
    cases hi with
    | none=>exact pt rfl
    | some _=>have:=qJ rfl;omega
   have qK:(if mx.isSome then m else 0)=0:=by split<;>omega
   have BK:l=0:=by omega
   refine⟨.slice none 0 0,?_,.ai⟩
   subst BK JM
   simp only[Instr.sliceAt,Sem.run_bind,run_underlying hu,Result.andThen_ok,Instr.slice,hr,qK,br bd]
   simp
  ·cases h
 ·rename_i e b off n cap ex esz hu
  split at h
  ·rename_i sz l hh m bd hb
   split at h
   ·cases h
   ·rename_i bQ
    have bQ:sz=esz:=by simpa using bQ
    subst bQ
    split at h
    ·rename_i iN
     cases h
     cases hx with
     | slice hl hex dy hN hn=>
      rename_i cr off' cap'
      have oJ:cap≤cap':=by
       cases ex with
       | true=>exact Nat.le_of_eq (hex rfl).1.symm
       | false=>exact(dy rfl).1
      obtain⟨hr,JL,Es,xM,qJ,wa,pt⟩:=fX (P:=P) oJ hb h1 h2 h3 true w
      obtain⟨M,hM⟩:∃M,M=(if mx.isSome then m else cap'):=⟨_,rfl⟩
      have ZD:M≤cap':=by rw[hM];split<;>omega
      have Ye:hh≤m:=by
       cases tk:hi.isSome with
       | true=>exact qJ tk
       | false=>
        cases kh:mx.isSome with
        | true=>exact wa kh
        | false=>rw[pt tk,xM kh];assumption
      have hmM:m≤M:=by rw[hM];split<;>omega
      obtain⟨k,rfl⟩:∃k,M=l+k:=⟨M-l,by omega⟩
      have rL:(ex||mx.isSome)=true→off'=cr.o+off:=by
       intro he
       cases ex with
       | true=>exact(hex rfl).2
       | false=>
        rcases(dy rfl).2 with h' | ⟨_,h'⟩
        ·exact h'
        ·simp only[Bool.false_or] at he
         cases mx with
         | none=>cases he
         | some _=>simp [h'] at iN
      refine⟨.slice (some (if l+k=l then⟨cr.c,off',none⟩ else⟨cr.c,off'+l*sz,none⟩)) (hh-l) (l+k-l),?_,?_⟩
      ·simp only[Instr.sliceAt,Sem.run_bind,run_underlying hu,Result.andThen_ok,Instr.slice,hr,br bd,←hM,Sem.run_pure]
       split<;>simp [ek]
      ·have e1:l+k-l=k:=by omega
       have hk:off'+(l+k)*sz≤cr.N:=Nat.le_trans (Nat.add_le_add_left (Nat.mul_le_mul_right sz ZD) off') hN
       rw[Nat.add_mul] at hk
       have goal:∀(o2 tm:Nat),(o2=if l+k=l then off' else off'+l*sz)→(tm=if ((ex||mx.isSome)&&m==l)=true then off else off+l*sz)→
         aq ρ (.slice b tm (hh-l) (m-l) (ex||mx.isSome) sz) (.slice (some ⟨cr.c,o2,none⟩) (hh-l) k):=by
        intro o2 tm RP Oz
        refine .slice hl (fun he=>?_) (fun he=>?_) ?_ (by omega)
        ·have hoe:=rL he
         have hmk:m=l+k:=by
          rw[hM]
          cases kh:mx.isSome with
          | true=>simp
          | false=>
           rw[kh,Bool.or_false] at he
           have:=(hex he).1
           simp [xM kh,this]
         refine⟨by omega,?_⟩
         subst hmk
         rw[RP,Oz,he]
         by_cases jZ:l+k=l
         ·rw[if_pos jZ,if_pos (by simpa using jZ)];exact hoe
         ·rw[if_neg jZ,if_neg (by simpa using jZ)];omega
        ·rw[Bool.or_eq_false_iff] at he
         have hmc:=xM he.2
         rw[he.2] at hM
         simp only[Bool.false_eq_true,if_false] at hM
         obtain⟨_,hw⟩:=dy he.1
         refine⟨by omega,?_⟩
         rw[Oz,he.1,he.2]
         simp only[Bool.or_self,Bool.false_and,Bool.false_eq_true,if_false]
         by_cases jZ:l+k=l
         ·exact .inr ⟨by omega,by omega⟩
         ·rcases hw with hw | hw
          ·rw[if_neg jZ] at RP
           exact .inl (by omega)
          ·exact .inr ⟨by omega,by omega⟩
        ·rw[RP];split<;>omega
       rw[e1]
       have Bd:=goal _ _ rfl rfl
       by_cases jZ:l+k=l
       ·rw[if_pos jZ];rw[if_pos jZ] at Bd;exact Bd
       ·rw[if_neg jZ];rw[if_neg jZ] at Bd;exact Bd
    ·cases h
  ·cases h
 ·rename_i e es esz ex hu
  split at h
  ·rename_i sz l hh m bd hb
   split at h
   ·cases h
   ·rename_i bQ
    exact sP hu bd hb (by simpa using bQ) (Option.some.inj h).symm hx h1 h2 h3 w
  ·cases h
 ·rename_i e n f esz ex nn hu
  split at h
  ·rename_i sz l hh m bd hb
   split at h
   ·cases h
   ·rename_i bQ
    cases hx with
    | arr _ hx=>
     have bq:bounds (len (b9 n f)) (len (b9 n f)) lo hi mx=some (l,hh,m):=by rw[bc,aS];exact hb
     obtain⟨v',aI,aO⟩:=sP hu bd bq (by simpa using bQ) rfl hx h1 h2 h3 w
     refine⟨v',aI,?_⟩
     have:=(Option.some.inj h).symm
     subst this
     refine .arr (fun h=>by cases h) ?_
     rw[bc,aS] at aO
     have pt:hh≤n:=by
      obtain⟨_,_,Es,_⟩:=fX (P:=P) (Nat.le_refl n) hb h1 h2 h3 true w
      obtain⟨_,JL,_,xM,qJ,wa,pt⟩:=fX (P:=P) (Nat.le_refl n) hb h1 h2 h3 true w
      cases tk:hi.isSome with
      | true=>have:=qJ tk;omega
      | false=>
       cases kh:mx.isSome with
       | true=>have:=wa kh;omega
       | false=>rw[pt tk];exact Nat.le_refl _
     have e:dB (dq l (b9 n f)) (hh-l)=b9 (hh-l) fun i=>f (Nat.add l i):=by
      rw[eP,ew]
      apply List.ext_getElem?
      intro i
      rw[List.getElem?_take]
      split
      ·rename_i eR
       rw[List.getElem?_drop,dg (by omega),dg eR];rfl
      ·rename_i eR
       rw[List.getElem?_eq_none (by rw[aS];omega)]
     rw[e] at aO
     exact aO
  ·cases h
 ·cases h
theorem yW [Env] (hr:R ρ σ w) {t e:TypeId} {n:Nat} {x v:V} {lo hi mx:Option V} (hu:P.underlying t=some (.array n e)) (h:jP P σ n e lo hi mx x=some v) {x':Value} {ti eR tj:Option Value} (hx:aq ρ x x')
  (h1:OV ρ lo ti) (h2:OV ρ hi eR) (h3:OV ρ mx tj):∃v',(Instr.sliceAt t x' ti eR tj).run P w=.ok v' w∧aq ρ v v':=by
 unfold jP at h
 split at h
 ·rename_i b off
  cases hx with
  | ptr hl=>
   rename_i cr
   split at h
   ·rename_i sz l hh m N z t' p ro bd hb hk
    split at h
    ·rename_i hN
     cases h
     obtain⟨aI,JL,Es,xM,qJ,wa,pt⟩:=fX (P:=P) (Nat.le_refl _) hb h1 h2 h3 false w
     have hM:(if mx.isSome then m else n)=m:=by
      cases kh:mx.isSome with
      | true=>simp
      | false=>simp [xM kh]
     rw[hM] at aI
     have hN':off+n*sz≤N:=Nat.le_of_ble_eq_true hN
     have Ye:hh≤m:=by
      cases tk:hi.isSome with
      | true=>exact qJ tk
      | false=>
       cases kh:mx.isSome with
       | true=>exact wa kh
       | false=>rw[pt tk,xM kh];exact Nat.le_refl _
     have xN:=(hr.cells hk hl).2.1
     have hmn:m*sz≤n*sz:=Nat.mul_le_mul_right sz Es
     refine⟨.slice (some (if m=l then⟨cr.c,cr.o+off,none⟩ else⟨cr.c,cr.o+off+l*sz,none⟩)) (hh-l) (m-l),?_,?_⟩
     ·simp only[Instr.sliceAt,Sem.run_bind,run_underlying hu,Result.andThen_ok,Instr.sureAddr,Sem.run_pure,aI,br bd]
      split<;>simp [ek]
     ·have key:∀o2 tm,o2=cr.o+tm→tm+(m-l)*sz≤N→aq ρ (.slice b tm (hh-l) (m-l) true sz) (.slice (some ⟨cr.c,o2,none⟩) (hh-l) (m-l)):=fun o2 tm ho hle=>
       .slice hl (fun _=>⟨rfl,ho⟩) (fun h=>by cases h) (by omega) (by omega)
      by_cases Et:m=l
      ·rw[if_pos Et]
       have e1:Nat.beq m l=true:=by rw[Et];exact Nat.beq_refl l
       simp only[e1]
       exact key _ _ rfl (by rw[Et,Nat.sub_self,Nat.zero_mul];omega)
      ·rw[if_neg Et]
       have e1:Nat.beq m l=false:=by
        cases hbe:Nat.beq m l with
        | true=>exact absurd (Nat.eq_of_beq_eq_true hbe) Et
        | false=>rfl
       simp only[e1]
       refine key _ _ (Nat.add_assoc _ _ _) ?_
       show off+l*sz+(m-l)*sz≤N
       have:l*sz+(m-l)*sz≤m*sz:=by
        rw[←Nat.add_mul]
        exact Nat.mul_le_mul_right sz (by omega)
       omega
    ·cases h
   ·cases h
 ·cases h
theorem au.bytes [Env]:∀(l:List UInt8),au ρ (l.map fun c=>V.int .u8 c.toNat) (l.map fun c=>Value.int .u8 c.toNat)
 | []=>.nil
 | _::l=>.cons (.int _ _) (au.bytes l)
theorem tn [Env] (hr:R ρ σ w) {sz n:Nat} {x:V} {new:List V} (h:iE σ sz x=some (n,new)) {x':Value} (hx:aq ρ x x'):
  ∃e6:List Value,(Builtin.lenOf x').run P w=.ok n w∧(∀bg:World,bg.heap=w.heap→(Builtin.firstCells sz n x').run P bg=.ok ⟨e6⟩ bg)∧au ρ new e6∧new.length=n*sz:=by
 unfold iE at h
 split at h
 ·cases h;cases hx
  exact⟨[],by simp [Builtin.lenOf],fun _ _=>by simp [Builtin.firstCells],.nil,by simp⟩
 ·rw[Option.map_eq_some_iff] at h
  obtain⟨vs,gO,he⟩:=h
  cases he
  cases hx with
  | slice hl hex dy hN hn=>
   rename_i b off cap ex esz cr off' cap'
   by_cases hz:off'=cr.o+off
   ·subst hz
    obtain⟨xs,aI,aO,hlen⟩:=hr.loadCells (P:=P) gO hl
    exact⟨xs,by simp [Builtin.lenOf],fun bg hw=>by simpa [Builtin.firstCells] using aI bg hw,aO,by rw[aO.length,hlen]⟩
   ·have hzero:n=0:=by
     cases ex with
     | true=>exact absurd (hex rfl).2 hz
     | false=>rcases(dy rfl).2 with h' | h'
              ·exact absurd h' hz
              ·exact h'.1
    subst hzero
    rw[Nat.zero_mul] at gO
    unfold St.cells at gO
    split at gO
    ·have h':some ([]:List V)=some _:=gO
     cases h'
     exact⟨[],by simp [Builtin.lenOf],fun _ _=>by simp [Builtin.firstCells,loadCells,loadCellsFrom],.nil,by simp⟩
    ·cases gO
 ·split at h
  ·rename_i hs
   cases h;cases hx
   subst hs
   rw[Lx,bc]
   refine⟨_,by simp [Builtin.lenOf];rfl,fun _ _=>?_,au.bytes _,by simp⟩
   rename_i l _ _
   have:((⟨⟨l⟩⟩:ByteArray).extract 0 l.length)=⟨⟨l⟩⟩:=by rw[Lib.extract_eq];simp
   simp only[Builtin.firstCells,this,Sem.run_pure]
   simp
  ·cases h
 ·split at h
  ·rename_i hs
   cases h
   subst hs
   rw[bc]
   cases hx with
   | bk hu hx hi hc he=>
    rename_i c off cap xs
    have hl:(ar _).length=_:=cX hu
    have Ag:=hx.length
    refine⟨xs,by simp [Builtin.lenOf],fun bg hw=>?_,hx,hl⟩
    have:=hr.va (P:=P) hi bg hw
    rw[←Ag,hl] at this
    simpa [Builtin.firstCells] using this
   | dO=>exact⟨[],by simp [Builtin.lenOf],fun _ _=>by simp [Builtin.firstCells],.nil,by simp [ar]⟩
   | dh he=>exact⟨[],by simp [Builtin.lenOf],fun _ _=>by simp [Builtin.firstCells,loadCells,loadCellsFrom],.nil,by simp [ar]⟩
  ·cases h
 ·cases h
theorem nextslicecap_le {need cap:Nat} (h:cap<need):Builtin.nextslicecap need cap≤2*need+192:=by
 have g:∀(k c:Nat),c≤2*need+192→Builtin.growBy need k c≤2*need+192:=by
  intro k
  induction k with
  | zero=>intro c hc;exact hc
  | succ k ih=>
   intro c hc
   unfold Builtin.growBy
   split
   ·exact hc
   ·exact ih _ (by omega)
 unfold Builtin.nextslicecap
 split
 ·omega
 ·split
  ·omega
  ·exact g 4 cap (by omega)
theorem PH:IntKind.i64.max=9223372036854775807:=by decide
theorem jB [Env] (hr:R ρ σ w) (cq:ρ id=none) {e:TypeId} {sz need:Nat} {old new:List V} {old' e6:List Value} (hold:au ρ old old') (fD:au ρ new e6)
  (hlen:old.length+new.length=need*sz) {zc:Array Value} (hz:zc.size=sz) (du:Nat) (ja:need≤du) (pl:Bool):
  let w':World:={w with drawn:=w.drawn+1}
  let wb:World:={w' with heap:=w'.heap.push (.cells ((⟨old'⟩:Array Value)++(⟨e6⟩:Array Value)++Builtin.zeroCells zc (du-need)) e (0,0))}
  ∃l,bf (fun b=>b=id) ρ σ w (k8 ρ id l) (grown σ id sz need (app old new) pl).2 wb∧aq (k8 ρ id l) (grown σ id sz need (app old new) pl).1 (.slice (some ⟨w.heap.size,0,none⟩) need du):=by
 intro w' wb
 have hzl:(Builtin.zeroCells zc (du-need)).size=(du-need)*sz:=by simp [Builtin.zeroCells,hz]
 have RQ:=hold.length
 have Eu:=fD.length
 have hN:((⟨old'⟩:Array Value)++(⟨e6⟩:Array Value)++Builtin.zeroCells zc (du-need)).size=du*sz:=by
  simp only[Array.size_append,hzl,List.size_toArray]
  rw[←RQ,←Eu,hlen,←Nat.add_mul]
  congr 1;omega
 have kf:wb.heap[w.heap.size]? =some (.cells ((⟨old'⟩:Array Value)++(⟨e6⟩:Array Value)++Builtin.zeroCells zc (du-need)) e (0,0)):=by
  show(w.heap.push _)[w.heap.size]? =_
  simp
 refine⟨⟨w.heap.size,0,du*sz⟩,?_,?_⟩
 ·refine bf.alloc hr cq (w':=wb) rfl rfl rfl rfl (.cells ⟨e,?_⟩ ?_ (fun i v hi=>?_) (fun _ i _=>?_) (fun _ i=>?_))
  ·unfold World.shape?
   rw[kf]
   simp only[hN]
  ·simpa using Nat.mul_le_mul_right sz ja
  ·rw[gI] at hi
   rcases fR hi with ⟨_,h2,h3⟩ | ⟨_,h2⟩
   ·obtain⟨x,cG,aO⟩:=(hold.append fD).get _ h3
    refine⟨x,?_,aO.mono (jz ρ _ cq)⟩
    have bB:i<(old'++e6).length:=by rw[List.length_append,←RQ,←Eu];simpa using h2
    have ZE:(old'++e6)[i]? =some x:=by simpa using cG
    simp only[World.cell?,kf,Nat.zero_add]
    simp only[Option.isSome_none,Bool.false_eq_true,if_false]
    rw[Array.getElem?_append_left (by simpa using bB)]
    simpa using ZE
   ·unfold cellOf at h2
    split at h2
    ·rw[Trie.eK] at h2;simp [dA] at h2
    ·cases h2
  ·simp [World.frozen?,kf]
  ·simp [World.frozen?,kf]
 ·exact .slice (l:=⟨w.heap.size,0,du*sz⟩) (jy _ _ _) (by simp) (fun _=>⟨ja,.inl rfl⟩) (by simp) (Nat.le_refl _)
theorem yX [Env] (hr:R ρ σ w) {b off n cap k sz:Nat} {ex:Bool} {old:List V} (h:σ.cells b off (n*sz)=some old) {cr:Loc} {off' cap':Nat} (hl:ρ b=some cr)
  (hex:ex=true→cap'=cap∧off'=cr.o+off) (dy:ex=false→cap≤cap'∧(off'=cr.o+off∨(n=0∧cap=0))):
  ∃old':List Value,(∀bg:World,bg.heap=w.heap→(Builtin.firstCells sz n (.slice (some ⟨cr.c,off',none⟩) n k)).run P bg=.ok ⟨old'⟩ bg)∧au ρ old old'∧old.length=n*sz:=by
 by_cases hz:off'=cr.o+off
 ·subst hz
  obtain⟨xs,aI,aO,hlen⟩:=hr.loadCells (P:=P) h hl
  exact⟨xs,fun bg hw=>by simpa [Builtin.firstCells] using aI bg hw,aO,by rw[aO.length,hlen]⟩
 ·have hzero:n=0:=by
   cases ex with
   | true=>exact absurd (hex rfl).2 hz
   | false=>
    rcases(dy rfl).2 with h' | h'
    ·exact absurd h' hz
    ·exact h'.1
  subst hzero
  rw[Nat.zero_mul] at h
  unfold St.cells at h
  split at h
  ·have h':some ([]:List V)=some _:=h
   cases h'
   exact⟨[],fun _ _=>by simp [Builtin.firstCells,loadCells,loadCellsFrom],.nil,by simp⟩
  ·cases h
theorem ib [Env] {tys:Array TypeId} {ty t t' e:TypeId} {i:TypeInfo} {d:TypeDesc} {s x:Value} {base:Option Addr} {eo gY n sz:Nat} {old new:List Value} {zv:Value}
  (ht:tys[0]? =some t) (e8:tys[1]? =some t') (hu:P.underlying t=some (.slice e)) (hd:P.underlying t'=some d) (iz:∀k,d≠.int k) (bd:bN P e=some sz) (hi:P.info? e=some i)
  (hs:s=.slice base eo gY) (hlen:(Builtin.lenOf x).run P w=.ok n w) (hz:∀w,(zeroValue e).run P w=.ok zv w) (nr:¬eo+n≤gY) (oK:i.bytes≠0) (dW:(eo+n)*i.bytes≤1099511627776)
  (hold:∀bg:World,bg.heap=w.heap→(Builtin.firstCells sz eo s).run P bg=.ok ⟨old⟩ bg) (fD:∀bg:World,bg.heap=w.heap→(Builtin.firstCells sz n x).run P bg=.ok ⟨new⟩ bg):
  ∃du,eo+n≤du∧(Builtin.append_ tys ty #[s,x]).run P w=
   .ok (.slice (some ⟨w.heap.size,0,none⟩) (eo+n) du) {w with drawn:=w.drawn+1,heap:=w.heap.push (.cells ((⟨old⟩:Array Value)++(⟨new⟩:Array Value)++Builtin.zeroCells zv.cells (du-(eo+n))) e (0,0))}:=by
 have BL:1≤i.bytes:=by omega
 have Wy:eo+n≤1099511627776:=Nat.le_trans (Nat.le_mul_of_pos_right _ BL) dW
 have Wz:Builtin.nextslicecap (eo+n) gY*i.bytes≤2^48:=by
  have h1:=nextslicecap_le (need:=eo+n) (cap:=gY) (by omega)
  have h2:Builtin.nextslicecap (eo+n) gY*i.bytes≤(2*(eo+n)+192)*i.bytes:=Nat.mul_le_mul_right _ h1
  have h3:(2*(eo+n)+192)*i.bytes=2*((eo+n)*i.bytes)+192*i.bytes:=by rw[Nat.add_mul,Nat.mul_assoc]
  have h4:i.bytes≤1099511627776:=Nat.le_trans (Nat.le_mul_of_pos_left _ (by omega)) dW
  omega
 have LC:eo+n≤(Question.appendCap (eo+n) gY e).cut (w.tape w.drawn (.appendCap (eo+n) gY e)):=by simp [Question.cut]
 refine⟨(Question.appendCap (eo+n) gY e).cut (w.tape w.drawn (.appendCap (eo+n) gY e)),LC,?_⟩
 have hm:(match d with | .int _=>true | _=>false)=false:=by cases d<;>first | rfl | exact absurd rfl (iz _)
 subst hs
 have ho:=hold {w with drawn:=w.drawn+1} rfl
 have hn:=fD {w with drawn:=w.drawn+1} rfl
 have j0:(#[Value.slice base eo gY,x]:Array Value)[0]? =some (Value.slice base eo gY):=rfl
 have Af:(#[Value.slice base eo gY,x]:Array Value)[1]? =some x:=rfl
 simp only[Builtin.append_,ht,e8,j0,Af,Sem.run_bind,run_underlying hu,run_underlying hd,Result.andThen_ok,br bd,Sem.run_pure,Bool.false_eq_true,if_false,hlen]
 have RR:¬(((eo+n:Nat):Int)>IntKind.i64.max∧(False∨i.bytes=0)):=by simp [oK]
 have RS:¬(Builtin.nextslicecap (eo+n) gY*i.bytes>2^48):=by omega
 have qL:(Question.appendCap (eo+n) gY e).forced=false:=rfl
 rw[if_neg nr]
 simp only[Sem.run_bind,run_typeInfo hi,Result.andThen_ok,if_neg RR,if_neg RS,run_choose,qL,Bool.false_eq_true,if_false,run_askRoom,ho,hn,Bool.not_false,if_true,hz,Sem.run_pure]
 rfl
theorem gn [Env] {tys:Array TypeId} {ty t t' e:TypeId} {d:TypeDesc} {x:Value} {base:Option Addr} {eo gY n sz:Nat} {new:List Value} {w':World}
  (ht:tys[0]? =some t) (e8:tys[1]? =some t') (hu:P.underlying t=some (.slice e)) (hd:P.underlying t'=some d) (iz:∀k,d≠.int k) (bd:bN P e=some sz)
  (hlen:(Builtin.lenOf x).run P w=.ok n w) (wV:eo+n≤gY) (fD:(Builtin.firstCells sz n x).run P w=.ok ⟨new⟩ w)
  (az:match base with | some a=>(storeCells (a.add (eo*sz)) new).run P w=.ok () w' | none=>w'=w):
  (Builtin.append_ tys ty #[.slice base eo gY,x]).run P w=.ok (.slice base (eo+n) gY) w':=by
 have hm:(match d with | .int _=>true | _=>false)=false:=by cases d<;>first | rfl | exact absurd rfl (iz _)
 have j0:(#[Value.slice base eo gY,x]:Array Value)[0]? =some (Value.slice base eo gY):=rfl
 have Af:(#[Value.slice base eo gY,x]:Array Value)[1]? =some x:=rfl
 simp only[Builtin.append_,ht,e8,j0,Af,Sem.run_bind,run_underlying hu,run_underlying hd,Result.andThen_ok,br bd,Sem.run_pure,Bool.false_eq_true,if_false,hlen]
 rw[if_pos wV]
 cases base with
 | none=>
  subst az
  simp only[Sem.run_bind,Bool.not_false,if_true,fD,Result.andThen_ok,Sem.run_pure]
 | some a=>
  dsimp only at az
  simp only[Sem.run_bind,Bool.not_false,if_true,fD,Result.andThen_ok,Sem.run_pure,az]
theorem DT {t:TypeId} (h:intType P t=false):∃d,P.underlying t=some d∧∀k,d≠.int k:=by
 unfold intType at h
 split at h
 ·cases h
 ·rename_i d hn hu
  exact⟨d,hu,fun k e=>hn k e⟩
 ·cases h
theorem DU [Env] (hr:R ρ σ w) (cq:ρ id=none) {b off m cap' n sz:Nat} {old new:List V} {e6:List Value} {pl:Bool} {cr:Loc} {off':Nat} (hold:σ.cells b off (m*sz)=some old) (hl:ρ b=some cr)
  (hz:off'=cr.o+off∨m=0) (sO:oB σ b=some pl) (hN:off'+cap'*sz≤cr.N) (wV:m+n≤cap') (iO:au ρ new e6) (nM:new.all V.scalar=true) (mR:new.length=n*sz):
  ∃w',(storeCells ((⟨cr.c,off',none⟩:Addr).add (m*sz)) e6).run P w=.ok () w'∧
   bf (fun b=>b=id) ρ σ w (k8 ρ id ⟨cr.c,off',cr.N⟩) (grown (σ.kill b) id sz (m+n) (app old new) pl).2 w':=by
 unfold oB at sO
 split at sO
 ·rename_i nb zb tb pb hb
  cases sO
  obtain⟨⟨ty,hs⟩,hnb,hv,hf,hp⟩:=hr.cells hb hl
  have hmn:(m+n)*sz≤cap'*sz:=Nat.mul_le_mul_right sz wV
  have LD:(m+n)*sz=m*sz+n*sz:=Nat.add_mul ..
  have hlen:=iO.length
  have jl:∀j,j<e6.length→(w.cell? ⟨cr.c,off'+m*sz+j,none⟩).isSome=true:=fun j hj=>kG hs (by omega)
  have PI:old.length=m*sz∧∀i v,old[i]? =some v→∃x,w.cell? ⟨cr.c,off'+i,none⟩=some x∧aq ρ v x:=by
   unfold St.cells at hold
   rw[hb] at hold
   obtain⟨h1,h2⟩:=gm _ _ hold
   refine⟨h1,fun i v hi=>?_⟩
   obtain⟨x,hx,aO⟩:=hv _ _ (h2 i v hi)
   refine⟨x,?_,aO⟩
   rcases hz with hz | hz
   ·rw[hz,Nat.add_assoc];exact hx
   ·subst hz
    rw[Nat.zero_mul] at h1
    have:old=[]:=List.eq_nil_of_length_eq_zero h1
    subst this
    simp at hi
  obtain⟨RQ,hoc⟩:=PI
  refine⟨w.setCells cr.c (off'+m*sz) e6,?_,?_⟩
  ·rw[ek]
   have:=run_storeCells_cells (P:=P) cr.c (off'+m*sz) e6 0 w (by simpa using jl) (fun j hj=>by simpa using hf rfl (off'+m*sz+j) (by omega)) (iO.ml nM)
   simpa using this
  ·obtain⟨r1,r2,r3⟩:=kx cr.c e6 (off'+m*sz) w
   refine bf.Wv (l:=⟨cr.c,off',cr.N⟩) hr cq hb rfl hl rfl (kv _ _ _ _) (fun c hc=>gz _ _ _ _ _ hc) r1 r2 r3 ?_
   refine .cells ⟨ty,by rw[jR];exact hs⟩ (by dsimp only;omega) (fun i v hi=>?_) (fun gM i hi=>by rw[World.frozen?_setCells];exact hf rfl i hi) (fun qH i=>by rw[World.frozen?_setCells];exact hp qH i)
   rw[gI] at hi
   rcases fR hi with ⟨_,h2,h3⟩ | ⟨_,h2⟩
   ·rw[Nat.sub_zero] at h3
    by_cases hio:i<old.length
    ·rw[List.getElem?_append_left hio] at h3
     obtain⟨x,hx,aO⟩:=hoc i v h3
     refine⟨x,?_,aO.mono (jz ρ _ cq)⟩
     rw[World.cell?_setCells_out cr.c e6 (off'+m*sz) w _ (fun _ _=>by dsimp only;omega)]
     exact hx
    ·rw[List.getElem?_append_right (by omega)] at h3
     obtain⟨x,hx,aO⟩:=iO.get _ h3
     refine⟨x,?_,aO.mono (jz ρ _ cq)⟩
     have hj:i-old.length<e6.length:=by
      rw[←hlen]
      exact(List.getElem?_eq_some_iff.1 h3).1
     have:=World.cell?_setCells_in cr.c e6 (off'+m*sz) w jl (i-old.length) hj
     rw[show off'+m*sz+(i-old.length)=off'+i by omega] at this
     rw[this]
     rw[List.getElem?_eq_getElem hj] at hx
     exact hx
   ·unfold cellOf at h2
    split at h2
    ·rw[Trie.eK] at h2;simp [dA] at h2
    ·cases h2
 ·cases sO
theorem gQ [Env] (hr:R ρ σ w) (cq:ρ id=none) {tys:Array TypeId} {ty t t':TypeId} (ht:tys[0]? =some t) (e8:tys[1]? =some t') (nN:intType P t'=false) {s x v:V} {σ':St}
  (h:iF P σ id t s x=some (v,σ')) {s' x':Value} (hs:aq ρ s s') (hx:aq ρ x x'):
  ∃ρ' v' w',(Builtin.append_ tys ty #[s',x']).run P w=.ok v' w'∧aq ρ' v v'∧bf (fun b=>b=id) ρ σ w ρ' σ' w':=by
 obtain⟨d,hd,iz⟩:=DT nN
 unfold iF at h
 split at h
 ·rename_i e hu
  split at h
  ·rename_i sz dc z bd oK hz
   split at h
   ·cases h
   ·rename_i iN
    rw[not_or,not_or] at iN
    obtain⟨c1,c2,c3⟩:=iN
    rw[bc,ne_eq,Decidable.not_not] at c3
    obtain⟨i,hi,rfl⟩:=rI oK
    obtain⟨zv,gC,pq⟩:=gN (P:=P) hz ρ
    have nO:zv.cells.size=sz:=by rw[←c3,pq.cells.length];simp
    split at h
    ·cases h
    ·rename_i n new fD
     obtain⟨e6,hlen,gR,iO,mR⟩:=tn (P:=P) hr fD hx
     unfold gr at h
     split at h
     ·split at h
      ·rename_i j4
       cases h;cases hs
       subst j4
       exact⟨ρ,_,w,gn ht e8 hu hd iz bd hlen (by omega) (gR w rfl) (base:=none) rfl,.ai,bf.refl hr⟩
      ·rename_i j4
       split at h
       ·rename_i dW
        cases hs
        obtain⟨du,ja,aI⟩:=ib (tys:=tys) (ty:=ty) (w:=w) (n:=n) (x:=x') (old:=[]) (new:=e6) ht e8 hu hd iz bd hi (s:=.slice none 0 0) rfl hlen gC (by omega) c2 (by simpa using dW)
         (fun bg _=>by simp [Builtin.firstCells]) gR
        rw[Nat.zero_add] at ja aI
        obtain⟨l,fY,hv⟩:=jB (e:=e) hr cq (old:=[]) (old':=[]) .nil iO (by simpa using mR) nO du ja true
        have hh:some (grown σ id sz n new true)=some (v,σ'):=h
        cases hh
        exact⟨_,_,_,aI,hv,fY⟩
       ·cases h
     ·rename_i b off m cap ex esz
      cases hs with
      | slice hl hex dy hN hn=>
       rename_i cr off' cap'
       have oJ:cap≤cap':=by
        cases ex with
        | true=>exact Nat.le_of_eq (hex rfl).1.symm
        | false=>exact(dy rfl).1
       split at h
       ·cases h
       ·rename_i bQ
        have bQ:sz=esz:=by simpa using bQ
        subst bQ
        split at h
        ·rename_i j4
         subst j4
         cases h
         have rM:e6=[]:=by
          have:=iO.length
          rw[mR,Nat.zero_mul] at this
          exact List.eq_nil_of_length_eq_zero this.symm
         subst rM
         exact⟨ρ,_,w,gn ht e8 hu hd iz bd hlen (by omega) (gR w rfl) (base:=some _) rfl,.slice hl hex dy hN (by omega),bf.refl hr⟩
        split at h
        ·rename_i wV
         rw[Option.map_eq_some_iff] at h
         obtain⟨aB,az,he⟩:=h
         cases he
         obtain⟨w',aI,fY⟩:=hr.store (P:=P) (ids:=fun b=>b=id) az hl iO
         by_cases hz:off'=cr.o+off
         ·subst hz
          refine⟨ρ,_,w',gn ht e8 hu hd iz bd hlen (by omega) (gR w rfl) (base:=some _) ?_,.slice hl hex (fun he=>?_) hN (by omega),fY⟩
          ·dsimp only
           rw[ek,Nat.add_assoc]
           exact aI
          ·exact⟨oJ,.inl rfl⟩
         ·have hzero:m=0∧cap=0:=by
           cases ex with
           | true=>exact absurd (hex rfl).2 hz
           | false=>
            rcases(dy rfl).2 with h' | h'
            ·exact absurd h' hz
            ·exact h'
          have j4:n=0:=by omega
          subst j4
          have rM:e6=[]:=by
           have:=iO.length
           rw[mR,Nat.zero_mul] at this
           exact List.eq_nil_of_length_eq_zero this.symm
          subst rM
          have hw:w'=w:=by
           have h1:(storeCells (⟨cr.c,cr.o+(off+m*sz),none⟩:Addr) []).run P w=.ok () w:=rfl
           rw[h1] at aI
           injection aI with _ h2
           exact h2.symm
          subst hw
          exact⟨ρ,_,w',gn ht e8 hu hd iz bd hlen (by omega) (gR w' rfl) (base:=some _) rfl,.slice hl hex (fun he=>⟨oJ,.inr ⟨by omega,hzero.2⟩⟩) hN (by omega),fY⟩
        ·rename_i wV
         split at h
         ·rename_i dW
          rw[Option.bind_eq_some_iff] at h
          obtain⟨old,hold,h⟩:=h
          obtain⟨old',OA,OB,WA⟩:=yX (P:=P) (k:=cap') hr hold hl hex dy
          have LD:old.length+new.length=(m+n)*sz:=by rw[WA,mR,Nat.add_mul]
          unfold nT at h
          split at h
          ·have hce:=(hex rfl).1
           obtain⟨du,ja,aI⟩:=ib (tys:=tys) (ty:=ty) (w:=w) (n:=n) (x:=x') (old:=old') (new:=e6) ht e8 hu hd iz bd hi rfl hlen gC (by omega) c2 dW OA gR
           obtain⟨l,fY,hv⟩:=jB (e:=e) hr cq OB iO LD nO du ja true
           have hh:some (grown σ id sz (m+n) (app old new) true)=some (v,σ'):=h
           cases hh
           exact⟨_,_,_,aI,hv,fY⟩
          ·split at h
           ·rename_i pl sO nM
            rw[rp] at nM
            have hh:some (grown (σ.kill b) id sz (m+n) (app old new) pl)=some (v,σ'):=h
            cases hh
            by_cases He:m+n≤cap'
            ·have hz:off'=cr.o+off∨m=0:=(dy rfl).2.imp (fun h=>h) And.left
             obtain⟨w',az,fY⟩:=DU (P:=P) hr cq hold hl hz sO hN He iO nM mR
             exact⟨_,_,w',gn ht e8 hu hd iz bd hlen He (gR w rfl) (base:=some _) az,
              .slice (l:=⟨cr.c,off',cr.N⟩) (jy _ _ _) (by simp) (fun _=>⟨He,.inl rfl⟩) (by simpa using hN) (Nat.le_refl _),fY⟩
            ·obtain⟨du,ja,aI⟩:=ib (tys:=tys) (ty:=ty) (w:=w) (n:=n) (x:=x') (old:=old') (new:=e6) ht e8 hu hd iz bd hi rfl hlen gC He c2 dW OA gR
             have hk:=bf.kill (ids:=fun b=>b=id) hr b
             obtain⟨l,fY,hv⟩:=jB (e:=e) hk.r cq OB iO LD nO du ja pl
             exact⟨_,_,_,aI,hv,hk.trans fY⟩
           ·cases h
         ·cases h
     ·rename_i es esz
      split at h
      ·cases h
      ·rename_i bQ
       have bQ:sz=esz:=by simpa using bQ
       subst bQ
       split at h
       ·rename_i j4
        subst j4
        cases h
        have rM:e6=[]:=by
         have:=iO.length
         rw[mR,Nat.zero_mul] at this
         exact List.eq_nil_of_length_eq_zero this.symm
        subst rM
        cases hs with
        | bk pr cG eR gB jC=>exact⟨ρ,_,w,gn ht e8 hu hd iz bd hlen (by omega) (gR w rfl) (base:=some _) rfl,.bk pr cG eR (by omega) jC,bf.refl hr⟩
        | dO=>exact⟨ρ,_,w,gn ht e8 hu hd iz bd hlen (by omega) (gR w rfl) (base:=none) rfl,.dO,bf.refl hr⟩
        | dh jC=>exact⟨ρ,_,w,gn ht e8 hu hd iz bd hlen (by omega) (gR w rfl) (base:=some _) rfl,.dh jC,bf.refl hr⟩
       ·rename_i j4
        split at h
        ·rename_i dW
         rw[bc] at h dW
         have hh:some (grown σ id sz (es.length+n) (app (ar es) new) true)=some (v,σ'):=h
         cases hh
         cases hs with
         | bk pr cG eR gB jC=>
          rename_i c off cap xs
          have hce:=jC rfl
          have hl:=cX pr
          have Ag:=cG.length
          obtain⟨du,ja,aI⟩:=ib (tys:=tys) (ty:=ty) (w:=w) (n:=n) (x:=x') (old:=xs) (new:=e6) (s:=.slice (some ⟨c,off,none⟩) es.length cap) ht e8 hu hd iz bd hi rfl hlen gC (by omega) c2 dW
           (fun bg hw=>by
            have:=hr.va (P:=P) eR bg hw
            rw[←Ag,hl] at this
            simpa [Builtin.firstCells] using this) gR
          obtain⟨l,fY,hv⟩:=jB (e:=e) hr cq cG iO (need:=es.length+n) (by rw[hl,mR,Nat.add_mul]) nO du ja true
          exact⟨_,_,_,aI,hv,fY⟩
         | dO=>
          obtain⟨du,ja,aI⟩:=ib (tys:=tys) (ty:=ty) (w:=w) (n:=n) (x:=x') (old:=[]) (new:=e6) (s:=.slice none 0 0) ht e8 hu hd iz bd hi rfl hlen gC (by omega) c2 dW
           (fun bg hw=>by simp [Builtin.firstCells]) gR
          obtain⟨l,fY,hv⟩:=jB (e:=e) hr cq (old:=ar []) (old':=[]) .nil iO (need:=0+n) (by simpa [ar] using mR) nO du ja true
          exact⟨_,_,_,aI,hv,fY⟩
         | dh jC=>
          rename_i cap a
          have h0:=jC rfl
          subst h0
          obtain⟨du,ja,aI⟩:=ib (tys:=tys) (ty:=ty) (w:=w) (n:=n) (x:=x') (old:=[]) (new:=e6) (s:=.slice (some a) 0 0) ht e8 hu hd iz bd hi rfl hlen gC (by omega) c2 dW
           (fun bg hw=>by simp [Builtin.firstCells,loadCells,loadCellsFrom]) gR
          obtain⟨l,fY,hv⟩:=jB (e:=e) hr cq (old:=ar []) (old':=[]) .nil iO (need:=0+n) (by simpa [ar] using mR) nO du ja true
          exact⟨_,_,_,aI,hv,fY⟩
        ·cases h
     ·cases h
  ·cases h
 ·cases h
theorem fT {es:List V} {esz:Nat} (h:∀v∈es,v.cells.length=esz) {i:Nat} {u:V} (hi:es[i]? =some u) {k:Nat} (hk:k<esz):(ar es)[i*esz+k]? =u.cells[k]? :=by
 induction es generalizing i with
 | nil=>simp at hi
 | cons v es ih=>
  have hv:=h v List.mem_cons_self
  rw[bS]
  cases i with
  | zero=>
   simp at hi;subst hi
   rw[Nat.zero_mul,Nat.zero_add,List.getElem?_append_left (by omega)]
  | succ i=>
   rw[List.getElem?_append_right (by rw[hv,Nat.add_mul];omega),hv,show(i+1)*esz+k-esz=i*esz+k by rw[Nat.add_mul];omega]
   exact ih (fun u hu=>h u (List.mem_cons_of_mem _ hu)) (by simpa using hi)
theorem aq.JN [Env] {m:Nat} {g:Nat→V} {esz:Nat} {ex:Bool} {x:Value} (h:aq ρ (.bk (b9 m g) esz ex) x):∀i,i<m→(g i).cells.length=esz:=by
 intro i hi
 have bQ:b9 m g≠[]:=fun e=>by have:=aS m g;rw[e] at this;simp at this;omega
 generalize he:b9 m g=es at h
 cases h with
 | bk hu=>exact hu (g i) (by rw[←he];exact List.mem_of_getElem? (dg hi))
 | dO=>exact absurd he bQ
 | dh=>exact absurd he bQ
theorem tp [Env] {ρ':Ren} {w':World} {sz m:Nat} {g:Nat→V} {cs:List V} (dE:cs=ar (b9 m g)) (h:bf (fun b=>b=id) ρ σ w ρ' (grown σ id sz m cs true).2 w') (hu:∀i,i<m→(g i).cells.length=sz):
  bf (fun b=>b=id) ρ σ w ρ' (σ.new id (.row m g sz true)) w':=by
 subst dE
 have cL:∀v∈b9 m g,v.cells.length=sz:=by
  intro v hv
  obtain⟨i,hi,rfl⟩:=List.getElem_of_mem hv
  rw[aS] at hi
  have:=dg (f:=g) hi
  rw[List.getElem?_eq_getElem (by rw[aS];exact hi)] at this
  rw[Option.some.inj this];exact hu i hi
 refine h.vb (b:=id) (n:=m) (f:=g) (esz:=sz) (z:=[]) (t:=an (ar (b9 m g)) .leaf 0) (p:=true) (by show(σ.new id _).heap.get id=_;rw[fC,Trie.bP,if_pos rfl]) hu (fun i hi k v hk=>?_) (fun b'=>?_) (by show(σ.new id _).next=(σ.new id _).next;rw[kF,kF])
 ·have JO:k<sz:=by rw[←hu i hi];exact(List.getElem?_eq_some_iff.1 hk).1
  have bB:i*sz+k<m*sz:=by have:=kH hi (Nat.succ_le_of_lt JO);omega
  unfold cellOf
  have hb:Nat.blt (i*sz+k) (m*sz)=true:=by rw[Nat.blt_eq];exact bB
  rw[hb]
  dsimp only
  have RT:(ar (b9 m g)).length=m*sz:=by rw[cX cL,aS]
  rw[jQ,if_pos ⟨Nat.zero_le _,by rw[RT];omega⟩,Nat.sub_zero,fT cL (dg hi) JO,hk]
 ·show(σ.new id _).heap.get b'=if b'=id then _ else(σ.new id _).heap.get b'
  rw[fC,fC,Trie.bP,Trie.bP]
  by_cases e:b'=id
  ·rw[if_pos e,if_pos e]
  ·rw[if_neg e,if_neg e,if_neg e]
theorem lI [Env] {ρ':Ren} {m sz:Nat} {v':Value} (hm:m≠0) (h:aq ρ' (.slice id 0 m m false sz) v'):aq ρ' (.own id m sz) v':=by
 cases h with
 | slice hl hex dy hN hn=>
  obtain⟨h1,h2⟩:=dy rfl
  rcases h2 with h2 | h2
  ·subst h2;exact .own hl h1 (by simpa using hN)
  ·exact absurd h2.1 hm
theorem A3 [Env] (hr:R ρ σ w) (cq:ρ id=none) {tys:Array TypeId} {ty t t':TypeId} (ht:tys[0]? =some t) (e8:tys[1]? =some t') (nN:intType P t'=false) {m esz:Nat} {g:Nat→V} {ex nn:Bool} {s v:V} {σ':St}
  (h:nh P σ id t m g esz s=some (v,σ')) {s' x':Value} (hs:aq ρ s s') (hx:aq ρ (.arr m g esz ex nn) x'):
  ∃ρ' v' w',(Builtin.append_ tys ty #[s',x']).run P w=.ok v' w'∧aq ρ' v v'∧bf (fun b=>b=id) ρ σ w ρ' σ' w':=by
 cases hx with
 | arr _ hx=>
 have hu:=aq.JN hx
 unfold nh at h
 split at h
 ·rename_i e RU
  split at h
  ·rename_i sz dc z bd oK hz
   split at h
   ·cases h
   ·rename_i iN
    rw[not_or,not_or,not_or] at iN
    obtain⟨c1,c2,c3,c4⟩:=iN
    rw[ne_eq,Decidable.not_not] at c4
    subst c4
    have base:∀LF,iF P σ id t LF (.bk (b9 m g) sz ex)=gr σ id sz dc m (ar (b9 m g)) LF:=by
     intro LF
     unfold iF
     rw[RU]
     dsimp only
     rw[bd,oK,hz]
     dsimp only
     rw[if_neg (by rw[not_or,not_or];exact⟨c1,c2,c3⟩)]
     unfold iE
     dsimp only
     rw[if_pos rfl,bc,aS]
    unfold iw at h
    split at h
    ·split at h
     ·rename_i hm
      refine gQ hr cq ht e8 nN (x:=.bk (b9 m g) sz ex) ?_ hs hx
      rw[base];unfold gr;dsimp only;rw[if_pos hm];exact h
     ·rename_i hm
      split at h
      ·rename_i dW
       cases h
       obtain⟨ρ',v',w',aI,hv,az⟩:=gQ hr cq ht e8 nN (x:=.bk (b9 m g) sz ex) (s:=.ai) (v:=(grown σ id sz m (ar (b9 m g)) true).1) (σ':=(grown σ id sz m (ar (b9 m g)) true).2) (by
        rw[base];unfold gr;dsimp only;rw[if_neg hm,if_pos dW]) hs hx
       exact⟨ρ',v',w',aI,lI hm hv,tp rfl az hu⟩
      ·cases h
    ·rename_i n f rN nn
     split at h
     ·cases h
     ·rename_i hn
      rw[not_or,ne_eq,Decidable.not_not,ne_eq,Decidable.not_not] at hn
      obtain⟨rfl,rfl⟩:=hn
      cases hs with
      | arr _ hs=>
      have h0:b9 0 f=[]:=rfl
      rw[h0] at hs
      split at h
      ·rename_i hm
       cases h
       obtain⟨ρ',v',w',aI,hv,az⟩:=gQ hr cq ht e8 nN (x:=.bk (b9 m g) sz ex) (s:=.bk [] sz true) (v:=.bk [] sz true) (σ':=σ) (by
        rw[base];unfold gr;dsimp only;rw[if_neg (by simp),if_pos hm]) hs hx
       exact⟨ρ',v',w',aI,.arr (fun h=>by cases h) hv,az⟩
      ·rename_i hm
       split at h
       ·rename_i dW
        cases h
        obtain⟨ρ',v',w',aI,hv,az⟩:=gQ hr cq ht e8 nN (x:=.bk (b9 m g) sz ex) (s:=.bk [] sz true) (v:=(grown σ id sz m (ar (b9 m g)) true).1) (σ':=(grown σ id sz m (ar (b9 m g)) true).2) (by
         rw[base];unfold gr;dsimp only
         rw[if_neg (by simp),if_neg hm,show len ([]:List V)+m=m from Nat.zero_add m,if_pos dW];rfl) hs hx
        exact⟨ρ',v',w',aI,lI hm hv,tp rfl az hu⟩
       ·cases h
    ·rename_i b off n cap rN
     split at h
     case h_2=>cases h
     rename_i dE
     split at h
     ·cases h
     ·rename_i hn
      rw[not_or,not_or,ne_eq,Decidable.not_not,ne_eq,Decidable.not_not,ne_eq,Decidable.not_not] at hn
      obtain⟨rfl,rfl,rfl⟩:=hn
      split at h
      ·rename_i hm
       cases h
       exact gQ hr cq ht e8 nN (x:=.bk (b9 m g) sz ex) (s:=.slice b off 0 0 true sz) (v:=.slice b off 0 0 true sz) (σ':=σ) (by
        rw[base];unfold gr;dsimp only;rw[if_neg (by simp),if_pos hm]) hs hx
      ·rename_i hm
       split at h
       ·rename_i dW
        cases h
        obtain⟨ρ',v',w',aI,hv,az⟩:=gQ hr cq ht e8 nN (x:=.bk (b9 m g) sz ex) (s:=.slice b off 0 0 true sz) (v:=(grown σ id sz m (ar (b9 m g)) true).1) (σ':=(grown σ id sz m (ar (b9 m g)) true).2) (by
         rw[base];unfold gr;dsimp only
         rw[if_neg (by simp),if_neg hm,if_neg (by omega),Nat.zero_add,if_pos dW,Nat.zero_mul,dE];rfl) hs hx
        exact⟨ρ',v',w',aI,lI hm hv,tp rfl az hu⟩
       ·cases h
    ·cases h
  ·cases h
 ·cases h
theorem fZ {n:Nat} {g:Nat→V} {esz:Nat} (hu:∀i,i<n→(g i).cells.length=esz):∀v∈b9 n g,v.cells.length=esz:=by
 intro v hv
 obtain⟨i,hi,rfl⟩:=List.getElem_of_mem hv
 rw[aS] at hi
 have:=dg (f:=g) hi
 rw[List.getElem?_eq_getElem (by rw[aS];exact hi)] at this
 rw[Option.some.inj this];exact hu i hi
theorem RV [Env] {l:Loc} {n:Nat} {f:Nat→V} {esz:Nat} {p:Bool} (h:cC ρ w l (.row n f esz p)) {k:Nat} {v:V} (hk:(ar (b9 n f))[k]? =some v):∃x,w.cell? ⟨l.c,l.o+k,none⟩=some x∧aq ρ v x:=by
 cases h with
 | row hs hn hu hv hf hp=>
  have cL:=fZ hu
  have bB:k<n*esz:=by
   have:=(List.getElem?_eq_some_iff.1 hk).1
   rw[cX cL,aS] at this;exact this
  have h0:0<esz:=by
   rcases Nat.eq_zero_or_pos esz with h | h
   ·subst h;simp at bB
   ·exact h
  have hi:k/esz<n:=(Nat.div_lt_iff_lt_mul h0).2 bB
  have ed:k%esz<esz:=Nat.mod_lt _ h0
  have e:k/esz*esz+k%esz=k:=by rw[Nat.mul_comm];exact Nat.div_add_mod k esz
  have hg:=fT cL (dg (f:=f) hi) ed
  rw[e,hk] at hg
  obtain⟨x,hx,hr⟩:=hv _ hi _ v hg.symm
  rw[e] at hx
  exact⟨x,hx,hr⟩
theorem bf.Ew [Env] {ids:Nat→Prop} {bz:Ren} {σ₀:St} {eY:World} (h:bf ids bz σ₀ eY ρ σ w) {b n esz:Nat} {f:Nat→V} {p:Bool} (hb:σ.heap.get b=some (.row n f esz p))
  {σ':St} (JC:∀b',σ'.heap.get b'=if b'=b then some (.cells (n*esz) [] (an (ar (b9 n f)) .leaf 0) p false) else σ.heap.get b') (hn:σ'.next=σ.next):bf ids bz σ₀ eY ρ σ' w:=by
 have hd:∀b' k,σ'.heap.get b'=some k→∃k',σ.heap.get b'=some k':=by
  intro b' k hk
  rw[JC] at hk
  by_cases e:b'=b
  ·subst e;exact⟨_,hb⟩
  ·rw[if_neg e] at hk;exact⟨_,hk⟩
 have k7:∀c,Wr ρ σ' c→Wr ρ σ c:=by
  rintro c ⟨b',k,l,h1,_,h3,h4⟩
  obtain⟨k',fM⟩:=hd b' k h1
  exact⟨b',k',l,fM,rfl,h3,h4⟩
 refine⟨⟨fun b' k hk=>?_,fun cQ cR k₁ k₂ cg lG h1 h2=>?_,fun b' bq=>h.r.fresh b' (by rw[←hn];exact bq),h.r.valid,fun c o x hx=>⟨(h.r.aL c o x hx).1,fun hw=>(h.r.aL c o x hx).2 (k7 c hw)⟩,h.r.laid⟩,
  h.le,by rw[hn];exact h.next,h.iy,h.size,h.os,h.tape,h.output,h.aJ,fun c hc hw=>h.wr c hc (k7 c hw),fun b' k hk=>?_,h.gv⟩
 ·rw[JC] at hk
  by_cases e:b'=b
  ·subst e
   rw[if_pos rfl] at hk
   cases hk
   obtain⟨l,hl,dD⟩:=h.r.cP _ _ hb
   refine⟨l,hl,?_⟩
   have kf:=@RV ρ w _ l n f esz p dD
   cases dD with
   | row hs hn hu hv hf hp=>
    refine .cells hs hn (fun i v hi=>?_) (fun _=>hf) hp
    rcases fR hi with ⟨_,_,h3⟩ | ⟨_,h2⟩
    ·exact kf h3
    ·unfold cellOf at h2
     split at h2
     ·rw[Trie.eK] at h2;simp [dA] at h2
     ·cases h2
  ·rw[if_neg e] at hk;exact h.r.cP b' k hk
 ·obtain⟨Ww,fM⟩:=hd _ _ h1
  obtain⟨Wx,BG⟩:=hd _ _ h2
  exact h.r.inj _ _ _ _ _ _ fM BG
 ·obtain⟨k',ed⟩:=hd _ _ hk
  exact h.iM b' k' ed
theorem xO {n:Nat} {z:List V} {t:Trie V}:∀(vs:List V) (off:Nat),(∀i v,vs[i]? =some v→cellOf n z t (off+i)=some v)→cellsOf n z t vs.length off=some vs
 | [],off,_=>rfl
 | v::vs,off,h=>by
  show kr (cellOf n z t off) (cellsOf n z t vs.length (Nat.add off 1))=_
  rw[show cellOf n z t off=some v from h 0 v rfl,xO vs (Nat.add off 1) fun i u hu=>by
   have:=h (i+1) u (by simpa using hu)
   rwa [show off+(i+1)=Nat.add off 1+i by show off+(i+1)=off+1+i;omega] at this]
  rfl
theorem qM (vs:List V):cellsOf vs.length [] (an vs .leaf 0) vs.length 0=some vs:=
 xO vs 0 fun i v hi=>by
  have bB:=(List.getElem?_eq_some_iff.1 hi).1
  unfold cellOf
  rw[Nat.zero_add,show Nat.blt i vs.length=true by rw[Nat.blt_eq];exact bB]
  dsimp only
  rw[jQ,if_pos ⟨Nat.zero_le _,by omega⟩,Nat.sub_zero,hi]
theorem ou (n:Nat) (f g:Nat→V) (j:Nat):dY n f g j=if j<n then f j else g (j-n):=by
 unfold dY
 by_cases h:j<n
 ·rw[if_pos h,show Nat.blt j n=true by rw[Nat.blt_eq];exact h]
 ·rw[if_neg h]
  cases hb:Nat.blt j n with
  | false=>rfl
  | true=>rw[Nat.blt_eq] at hb;exact absurd hb h
theorem LG (n m:Nat) (f g:Nat→V):b9 (n+m) (dY n f g)=b9 n f++b9 m g:=by
 apply List.ext_getElem?
 intro i
 by_cases hi:i<n
 ·rw[List.getElem?_append_left (by rw[aS];exact hi),dg (by omega),dg hi,ou,if_pos hi]
 ·rw[List.getElem?_append_right (by rw[aS];omega),aS]
  by_cases e:i<n+m
  ·rw[dg e,ou,if_neg hi,dg (by omega)]
  ·rw[List.getElem?_eq_none (by rw[aS];omega),List.getElem?_eq_none (by rw[aS];omega)]
theorem DV {σ:St} {sz:Nat} {x:V} {m:Nat} {g:Nat→V} {new:List V} (h:oneOf σ sz x=some (m,g,new)):
  m≠0∧iE σ sz x=some (m,new)∧ar (b9 m g)=new:=by
 unfold oneOf at h
 split at h
 ·split at h
  ·rename_i hn hc
   cases h
   have hn:=Nat.eq_of_beq_eq_true hn
   subst hn
   refine⟨by omega,?_,?_⟩
   ·show(σ.cells _ _ (1*sz)).map _=_
    rw[hc];rfl
   ·show app new []=new
    rw[gI,List.append_nil]
  ·cases h
 ·rename_i es esz ex
  split at h
  ·rename_i hb
   rw[Bool.and_eq_true] at hb
   cases h
   have h1:=Nat.eq_of_beq_eq_true hb.1
   have h2:=hb.2
   rw[Nat.blt_eq] at h2
   subst h1
   refine⟨by omega,?_,?_⟩
   ·show(if esz=esz then some (len es,ar es) else none)=_
    rw[if_pos rfl]
   ·congr 1
    apply List.ext_getElem?
    intro i
    by_cases hi:i<es.length
    ·rw[dg (by rw[bc];exact hi)];unfold kD;rw[dA,List.getElem?_eq_getElem hi]
    ·rw[List.getElem?_eq_none (by rw[aS,bc];omega),List.getElem?_eq_none (by omega)]
  ·cases h
 ·cases h
theorem xP {σ lb:St} {b sz:Nat} {x:V} {m:Nat} {new:List V} (h:iE σ sz x=some (m,new)) (fE:∀b',b'≠b→lb.heap.get b'=σ.heap.get b') (hb:∃n f z p,σ.heap.get b=some (.row n f z p)):iE lb sz x=some (m,new):=by
 unfold iE at h⊢
 split at h
 ·exact h
 ·rename_i bx off n cap ex esz
  rw[Option.map_eq_some_iff] at h
  obtain⟨l,hl,he⟩:=h
  have:lb.cells bx off (n*sz)=σ.cells bx off (n*sz):=by
   unfold St.cells
   rw[fE bx fun e=>?_]
   subst e
   obtain⟨n',f,z,p,hb⟩:=hb
   unfold St.cells at hl
   rw[hb] at hl;cases hl
  rw[this,hl,Option.map_some]
  exact congrArg some he
 ·exact h
 ·exact h
 ·cases h
theorem Hf [Env] {sz:Nat} {x:V} {m:Nat} {g:Nat→V} {new:List V} (h:oneOf σ sz x=some (m,g,new)) {x':Value} (hx:aq ρ x x') (hn:new.length=m*sz):∀i,i<m→(g i).cells.length=sz:=by
 unfold oneOf at h
 split at h
 ·split at h
  ·cases h
   intro i _
   show new.length=sz
   omega
  ·cases h
 ·rename_i es esz ex
  split at h
  ·rename_i hb
   rw[Bool.and_eq_true] at hb
   cases h
   have h1:=Nat.eq_of_beq_eq_true hb.1
   subst h1
   intro i hi
   rw[bc] at hi
   unfold kD
   rw[dA,List.getElem?_eq_getElem hi]
   have:∀v∈es,v.cells.length=esz:=by
    cases hx with
    | bk hu=>exact hu
    | dO=>exact fun v hv=>by cases hv
    | dh=>exact fun v hv=>by cases hv
   exact this _ (List.getElem_mem hi)
  ·cases h
 ·cases h
theorem A4 [Env] (hr:R ρ σ w) (cq:ρ id=none) {tys:Array TypeId} {ty t t':TypeId} (ht:tys[0]? =some t) (e8:tys[1]? =some t') (nN:intType P t'=false) {b n esz:Nat} {v x:V} {σ':St}
  (h:ni P σ id t b n esz x=some (v,σ')) {s' x':Value} (hs:aq ρ (.own b n esz) s') (hx:aq ρ x x'):
  ∃ρ' v' w',(Builtin.append_ tys ty #[s',x']).run P w=.ok v' w'∧aq ρ' v v'∧bf (fun b=>b=id) ρ σ w ρ' σ' w':=by
 unfold ni at h
 split at h
 ·rename_i e RU
  split at h
  ·rename_i sz dc z bd oK hz
   split at h
   ·cases h
   ·rename_i iN
    rw[not_or,not_or,not_or] at iN
    obtain⟨c1,c2,c3,c4⟩:=iN
    rw[ne_eq,Decidable.not_not] at c4
    subst c4
    split at h
    ·rename_i m g new fD
     obtain⟨qK,ja,hfg⟩:=DV fD
     unfold sZ at h
     split at h
     ·rename_i n' f esz p hb
      split at h
      ·rename_i hc
       obtain⟨rfl,rfl,_,dW,nM⟩:=hc
       cases h
       let cs:=ar (b9 n' f)
       let lb:=σ.set b (.cells (n'*esz) [] (an cs .leaf 0) p false)
       have fE:∀b',lb.heap.get b'=if b'=b then some (.cells (n'*esz) [] (an cs .leaf 0) p false) else σ.heap.get b':=fun b'=>by
        show(σ.set b _).heap.get b'=_
        rw[mo,Trie.bP]
       have az:=bf.Ew (σ':=lb) (bf.refl (ids:=fun b=>b=id) hr) hb fE (by show(σ.set b _).next=_;rw[rH])
       have hsl:aq ρ (.slice b 0 n' n' false esz) s':=by
        cases hs with
        | own hl hc hN=>exact .slice hl (fun h=>by cases h) (fun _=>⟨hc,.inl rfl⟩) hN (Nat.le_refl _)
       obtain⟨l,hl,dD⟩:=hr.cP _ _ hb
       have hu:∀i,i<n'→(f i).cells.length=esz:=by cases dD with | row hs hn hu=>exact hu
       have iZ:cs.length=n'*esz:=by show(ar _).length=_;rw[cX (fZ hu),aS]
       obtain⟨_,_,_,_,Eu⟩:=tn (P:=P) hr ja hx
       have aU:iF P lb id t (.slice b 0 n' n' false esz) x=some (grown (lb.kill b) id esz (n'+m) (app cs new) p):=by
        unfold iF
        rw[RU]
        dsimp only
        rw[bd,oK,hz]
        dsimp only
        rw[if_neg (by rw[not_or,not_or];exact⟨c1,c2,c3⟩)]
        have h1:iE lb esz x=some (m,new):=xP ja (fun b' e=>by rw[fE,if_neg e]) ⟨_,_,_,_,hb⟩
        rw[h1]
        show gr lb id esz dc m new (.slice b 0 n' n' false esz)=_
        unfold gr
        dsimp only
        rw[if_neg (by simp),if_neg qK,if_neg (by omega),if_pos dW]
        have h2:lb.cells b 0 (n'*esz)=some cs:=by
         unfold St.cells
         rw[fE,if_pos rfl]
         show cellsOf (n'*esz) [] (an cs .leaf 0) (n'*esz) 0=some cs
         rw[←iZ]
         exact qM cs
        rw[h2]
        show nT lb id esz b false (n'+m) new cs=_
        unfold nT
        dsimp only
        have h3:oB lb b=some p:=by
         unfold oB
         rw[fE,if_pos rfl]
        rw[h3,nM]
       obtain⟨ρ',v',w',aI,hv,lJ⟩:=gQ az.r cq ht e8 nN aU hsl hx
       refine⟨ρ',v',w',aI,lI (by omega) hv,az.trans ?_⟩
       have RT:ar (b9 (n'+m) (dY n' f g))=app cs new:=by
        rw[LG,wP,gI,hfg]
       have hug:∀i,i<m→(g i).cells.length=esz:=Hf fD hx Eu
       have pr:∀i,i<n'+m→(dY n' f g i).cells.length=esz:=by
        intro i hi
        rw[ou]
        by_cases h:i<n'
        ·rw[if_pos h];exact hu i h
        ·rw[if_neg h];exact hug _ (by omega)
       refine lJ.vb (b:=id) (n:=n'+m) (f:=dY n' f g) (esz:=esz) (z:=[]) (t:=an (app cs new) .leaf 0) (p:=p) (by show((lb.kill b).new id _).heap.get id=_;rw[fC,Trie.bP,if_pos rfl]) pr (fun i hi k v hk=>?_) (fun b'=>?_) (by show((σ.kill b).new id _).next=((lb.kill b).new id _).next;rw[kF,kF,te,te];show max σ.next (id+1)=max (σ.set b _).next (id+1);rw[rH])
       ·have JO:k<esz:=by rw[←pr i hi];exact(List.getElem?_eq_some_iff.1 hk).1
        have bB:i*esz+k<(n'+m)*esz:=by have:=kH hi (Nat.succ_le_of_lt JO);omega
        unfold cellOf
        have hbb:Nat.blt (i*esz+k) ((n'+m)*esz)=true:=by rw[Nat.blt_eq];exact bB
        rw[hbb]
        dsimp only
        rw[jQ,←RT,if_pos ⟨Nat.zero_le _,by rw[cX (fZ pr),aS];omega⟩,Nat.sub_zero,fT (fZ pr) (dg hi) JO,hk]
       ·show((σ.kill b).new id _).heap.get b'=if b'=id then _ else((lb.kill b).new id _).heap.get b'
        rw[fC,fC,Trie.bP,Trie.bP,k6,k6,Trie.bP,Trie.bP]
        by_cases e:b'=id
        ·rw[if_pos e,if_pos e]
        ·rw[if_neg e,if_neg e,if_neg e]
         by_cases e2:b'=b
         ·rw[if_pos e2,if_pos e2]
         ·rw[if_neg e2,if_neg e2,fE,if_neg e2]
      ·cases h
     ·cases h
    ·cases h
  ·cases h
 ·cases h
theorem DW [Env] (hr:R ρ σ w) (cq:ρ id=none) {tys:Array TypeId} {ty t t':TypeId} (ht:tys[0]? =some t) (e8:tys[1]? =some t') (nN:intType P t'=false) {s x v:V} {σ':St}
  (h:jf P σ id t s x=some (v,σ')) {s' x':Value} (hs:aq ρ s s') (hx:aq ρ x x'):
  ∃ρ' v' w',(Builtin.append_ tys ty #[s',x']).run P w=.ok v' w'∧aq ρ' v v'∧bf (fun b=>b=id) ρ σ w ρ' σ' w':=by
 unfold jf at h
 split at h
 ·exact A3 hr cq ht e8 nN h hs hx
 ·split at h
  ·exact A4 hr cq ht e8 nN h hs hx
  ·exact gQ hr cq ht e8 nN h hs hx
theorem wc [Env] {ρ:Ren} {z:V} {zv:Value} (h:aq ρ z zv) {sz n:Nat} (hs:z.cells.length=sz) (h0:sz≠0):au ρ (kY sz n z.cells) (Builtin.zeroCells zv.cells n).toList:=by
 have hc:=h.cells
 have bd:zv.cells.size=sz:=by rw[←hs,hc.length];simp
 unfold kY Builtin.zeroCells
 rw[bd]
 generalize n*sz=m
 rw[Array.toList_map,Array.toList_range]
 generalize List.range m=l
 induction l with
 | nil=>exact .nil
 | cons i l ih=>
  refine .cons ?_ ih
  have hi:i%sz<sz:=Nat.mod_lt _ (by omega)
  obtain⟨x,hx,hr⟩:=hc.get (i%sz) (show z.cells[i%sz]? =some _ from List.getElem?_eq_getElem (by omega))
  have e1:z.cells.getD (i%sz) cO=z.cells[i%sz]'(by omega):=by rw[List.getD_eq_getElem?_getD,List.getElem?_eq_getElem (by omega)];rfl
  have e2:zv.cells[i%sz]! =x:=by
   rw[getElem!_pos zv.cells (i%sz) (by omega)]
   rw[Array.getElem?_toList,Array.getElem?_eq_getElem (by omega)] at hx
   exact Option.some.inj hx
  show aq ρ (z.cells.getD (i%sz) cO) (zv.cells[i%sz]!)
  rw[e1,e2];exact hr
theorem BM [Env] (hr:R ρ σ w) (cq:ρ id=none) {tys:Array TypeId} {ty t t':TypeId} (ht:tys[0]? =some t) (e8:tys[1]? =some t') {s x v:V} {σ':St}
  (h:ka P σ id t t' s x=some (v,σ')) {s' x':Value} (hs:aq ρ s s') (hx:aq ρ x x'):
  ∃ρ' v' w',(Builtin.append_ tys ty #[s',x']).run P w=.ok v' w'∧aq ρ' v v'∧bf (fun b=>b=id) ρ σ w ρ' σ' w':=by
 unfold ka at h
 split at h
 ·rename_i e kk hu hd
  split at h
  ·rename_i n
   split at h
   ·rename_i sz dc z bd oK hz
    split at h
    ·cases h
    ·rename_i iN
     rw[not_or,not_or,not_or,not_or] at iN
     obtain⟨c1,c2,c3,c4,c5⟩:=iN
     rw[bc,ne_eq,Decidable.not_not] at c3
     obtain⟨i,hi,rfl⟩:=rI oK
     obtain⟨zv,gC,pq⟩:=gN (P:=P) hz ρ
     have nO:zv.cells.size=sz:=by rw[←c3,pq.cells.length];simp
     obtain⟨N,rfl⟩:∃N:Nat,n=(N:Int):=⟨n.toNat,by omega⟩
     rw[Int.toNat_natCast] at h c5
     have dW:N*i.bytes≤1099511627776:=by omega
     have BL:1≤i.bytes:=by omega
     have Wy:N≤1099511627776:=Nat.le_trans (Nat.le_mul_of_pos_right _ BL) dW
     have Wz:Builtin.nextslicecap N 0*i.bytes≤2^48:=by
      have h1:=nextslicecap_le (need:=N) (cap:=0) (by omega)
      have h2:Builtin.nextslicecap N 0*i.bytes≤(2*N+192)*i.bytes:=Nat.mul_le_mul_right _ h1
      have h3:(2*N+192)*i.bytes=2*(N*i.bytes)+192*i.bytes:=by rw[Nat.add_mul,Nat.mul_assoc]
      have h4:i.bytes≤1099511627776:=Nat.le_trans (Nat.le_mul_of_pos_left _ (by omega)) dW
      omega
     cases hs;cases hx
     have WB:IntKind.i64.wrap (N:Int)=N:=by
      have h1:((N:Int)%(2^64:Int))=N:=Int.emod_eq_of_lt (by omega) (by omega)
      unfold IntKind.wrap
      simp only[IntKind.signed,IntKind.bits,h1,Bool.true_and]
      rw[if_neg (by simp;omega)]
     let q:Question:=.appendCap (0+N) 0 e
     have LC:0+N≤q.cut (w.tape w.drawn q):=by simp [q,Question.cut]
     have fD:au ρ (kY sz N z.cells) (Builtin.zeroCells zv.cells N).toList:=wc pq c3 c1
     have Eu:(kY sz N z.cells).length=N*sz:=by simp [kY]
     obtain⟨l,fY,hv⟩:=jB (e:=e) hr cq (old:=[]) (old':=[]) .nil fD (need:=N) (by simpa using Eu) nO (q.cut (w.tape w.drawn q)) (by simpa using LC) true
     have hh:some (grown σ id sz N (kY sz N z.cells) true)=some (v,σ'):=h
     cases hh
     refine⟨_,_,_,?_,hv,fY⟩
     have j0:(#[Value.slice none 0 0,Value.int .i64 (N:Int)]:Array Value)[0]? =some (Value.slice none 0 0):=rfl
     have Af:(#[Value.slice none 0 0,Value.int .i64 (N:Int)]:Array Value)[1]? =some (Value.int .i64 (N:Int)):=rfl
     have BK:¬((N:Int)<0):=by omega
     have JL:¬((N:Int)*(i.bytes:Int)>2^48):=by
      have:(N:Int)*(i.bytes:Int)=((N*i.bytes:Nat):Int):=by simp
      rw[this];omega
     have wV:¬(0+N≤0):=by omega
     have ZF:¬(((0+N:Nat):Int)>IntKind.i64.max∧(True∨i.bytes=0)):=by rw[PH];omega
     have WC:¬(Builtin.nextslicecap (0+N) 0*i.bytes>2^48):=by rw[Nat.zero_add];omega
     have hnz:¬(N*sz=0):=by
      intro h0
      rcases Nat.mul_eq_zero.1 h0 with h0 | h0<;>omega
     have qL:q.forced=false:=rfl
     simp only[Builtin.append_,ht,e8,j0,Af,Sem.run_bind,run_underlying hu,run_underlying hd,Result.andThen_ok,br bd,Sem.run_pure,if_true,asInt,asIntOf,WB,if_neg BK,run_typeInfo hi,if_neg JL,Int.toNat_natCast]
     rw[if_neg wV]
     simp only[Sem.run_bind,run_typeInfo hi,Result.andThen_ok,if_neg ZF,if_neg WC,run_choose,q,qL,Bool.false_eq_true,if_false,run_askRoom,Bool.not_true,if_neg hnz,gC,Sem.run_pure,Builtin.firstCells]
     simp only[Nat.zero_add,Array.toArray_toList,Array.empty_append] at *
     simp
     rfl
   ·cases h
  ·cases h
 ·cases h
end
end Go.Ev
