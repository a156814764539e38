/- Proved: parts of the way: OpsC. -/
import Derived.Test.YtbajncpfmemdgaaGreatDoorEvQ03
set_option linter.unusedVariables false
set_option linter.unusedSimpArgs false
namespace Go.Ev
open Go
section
variable {P:Program} {ρ:Ren} {σ:St} {w:World} {id:Nat} {p:V×St→Prop}
inductive OV [Env] (ρ:Ren):Option V→Option Value→Prop
 | none:OV ρ none none
 | some {v:V} {x:Value} (h:aq ρ v x):OV ρ (some v) (some x)
theorem bw.hP [Env] {a:Act} {a':Go.Act} (h:bw ρ a a') {x:Option Operand} {v:Option V} (hv:hP a x=some v):OV ρ v (x.map a'.eval):=by
 cases x with
 | none=>cases hv;exact .none
 | some x=>
  have lV:(a.eval x).map some=some v:=hv
  rw[Option.map_eq_some_iff] at lV
  obtain⟨u,hu,rfl⟩:=lV
  exact .some (h.eval x hu)
theorem dI [Env] {hi y:Nat} {v:V} {n:Nat} (h:asNat 0 hi v=some n) {x:Value} (hx:aq ρ v x) (hy:hi≤y) (code:BoundsCode) (w:World):
  (Instr.sliceBound x y code).run P w=.ok n w∧n≤hi:=by
 unfold asNat at h
 split at h
 ·split at h
  ·rename_i k i hc
   cases h;cases hx
   have h0:0≤i∧i≤(y:Int):=⟨by simpa using hc.1,by omega⟩
   refine⟨?_,by omega⟩
   simp only[Instr.sliceBound,asIntOf,Sem.run_bind,Sem.run_pure,Result.andThen_ok]
   rw[if_pos h0];rfl
  ·cases h
 ·cases h
theorem fU [Env] {n cap cap':Nat} (hc:cap≤cap') {lo hi mx:Option V} {l hh m:Nat} (h:bounds n cap lo hi mx=some (l,hh,m)) {tn eN tp:Option Value} (h1:OV ρ lo tn) (h2:OV ρ hi eN) (h3:OV ρ mx tp)
  (isS:Bool) (w:World):(Instr.sliceBounds isS n cap' tn eN tp).run P w=.ok (l,hh,if mx.isSome then m else cap') w∧l≤hh∧m≤cap∧(mx.isSome=false→m=cap)∧(hi.isSome=true→hh≤m)∧(mx.isSome=true→hh≤m)∧(hi.isSome=false→hh=n):=by
 unfold bounds at h
 cases h3 with
 | none=>
  dsimp only at h
  cases h2 with
  | none=>
   dsimp only at h
   cases h1 with
   | none=>cases h;refine⟨by simp [Instr.sliceBounds],by omega,by omega,by simp,by simp,by simp,by simp⟩
   | some h1=>
    dsimp only at h
    split at h
    ·cases h
    ·rename_i l' hl
     cases h
     obtain⟨r1,b1⟩:=dI (P:=P) hl h1 (Nat.le_refl _) .sliceB w
     exact⟨by simp [Instr.sliceBounds,r1],b1,by omega,by simp,by simp,by simp,by simp⟩
  | some h2=>
   dsimp only at h
   split at h
   ·cases h
   ·rename_i h' I6
    have r2:=fun code=>(dI (P:=P) I6 h2 hc code w).1
    have Xc:=(dI (P:=P) I6 h2 hc .sliceAlen w).2
    cases h1 with
    | none=>
     cases h
     refine⟨?_,by omega,by omega,by simp,by simpa using Xc,by simp,by simp⟩
     simp [Instr.sliceBounds,r2]
    | some h1=>
     dsimp only at h
     split at h
     ·cases h
     ·rename_i l' hl
      cases h
      obtain⟨r1,b1⟩:=dI (P:=P) hl h1 (Nat.le_refl _) .sliceB w
      refine⟨?_,b1,by omega,by simp,by simpa using Xc,by simp,by simp⟩
      simp [Instr.sliceBounds,r2,r1]
 | some h3=>
  dsimp only at h
  split at h
  ·cases h
  ·rename_i m' hm
   have r3:=fun code=>(dI (P:=P) hm h3 hc code w).1
   have b3:=(dI (P:=P) hm h3 hc .sliceAlen w).2
   cases h2 with
   | none=>dsimp only at h;cases h
   | some h2=>
    dsimp only at h
    split at h
    ·cases h
    ·rename_i h' I6
     have r2:=fun code=>(dI (P:=P) I6 h2 (Nat.le_refl _) code w).1
     have b2:=(dI (P:=P) I6 h2 (Nat.le_refl _) .sliceAlen w).2
     cases h1 with
     | none=>
      cases h
      refine⟨?_,by omega,b3,by simp,by simpa using b2,by simpa using b2,by simp⟩
      simp [Instr.sliceBounds,r3,r2]
     | some h1=>
      dsimp only at h
      split at h
      ·cases h
      ·rename_i l' hl
       cases h
       have r1:=fun code=>(dI (P:=P) hl h1 (Nat.le_refl _) code w).1
       have b1:=(dI (P:=P) hl h1 (Nat.le_refl _) .sliceAlen w).2
       refine⟨?_,b1,b3,by simp,by simpa using b2,by simpa using b2,by simp⟩
       simp [Instr.sliceBounds,r3,r2,r1]
theorem yn {es:List V} {esz:Nat} (h:∀v∈es,v.cells.length=esz) (n:Nat):ar (es.take n)=(ar es).take (n*esz):=by
 induction es generalizing n with
 | nil=>simp [ar]
 | cons v es ih=>cases n with
  | zero=>simp [ar]
  | succ n=>
   have hv:=h v List.mem_cons_self
   rw[List.take_succ_cons,bO,bO,ih (fun u hu=>h u (List.mem_cons_of_mem _ hu)),Nat.add_mul,Nat.one_mul,Nat.add_comm (n*esz),←hv,List.take_length_add_append]
theorem l6 {es:List V} {esz:Nat} (h:∀v∈es,v.cells.length=esz) (n:Nat):ar (es.drop n)=(ar es).drop (n*esz):=by
 induction es generalizing n with
 | nil=>simp [ar]
 | cons v es ih=>cases n with
  | zero=>simp
  | succ n=>
   have hv:=h v List.mem_cons_self
   rw[List.drop_succ_cons,bO,ih (fun u hu=>h u (List.mem_cons_of_mem _ hu)),Nat.add_mul,Nat.one_mul,Nat.add_comm (n*esz),←hv,List.drop_length_add_append]
theorem aq.part [Env] {es:List V} {esz c off l n M:Nat} {ex:Bool} {xs:List Value} (hu:∀v∈es,v.cells.length=esz) (hx:au ρ (ar es) xs) (hi:∀k x,xs[k]? =some x→ρ.aL c (off+k)=some x)
  (hl:l+n≤es.length) (hM:n≤M) (he:ex=true→M=n) {o2:Nat} (ho:n=0∨o2=off+l*esz):aq ρ (.bj (dA (di l es) n) esz ex) (.slice (some ⟨c,o2,none⟩) n M):=by
 rw[eL,ek]
 have hlen:((es.drop l).take n).length=n:=by simp;omega
 have pf:∀v∈es.drop l,v.cells.length=esz:=fun v hv=>hu v (List.mem_of_mem_drop hv)
 have key:aq ρ (.bj ((es.drop l).take n) esz ex) (.slice (some ⟨c,o2,none⟩) ((es.drop l).take n).length M):=by
  refine .bj (xs:=(xs.drop (l*esz)).take (n*esz)) (fun v hv=>pf v (List.mem_of_mem_take hv)) ?_ (fun k x hk=>?_) (by omega) (fun h=>by rw[hlen];exact he h)
  ·rw[yn pf,l6 hu]
   exact(hx.drop _).take _
  ·rw[List.getElem?_take] at hk
   split at hk
   ·rename_i eA
    rw[List.getElem?_drop] at hk
    rcases ho with h0 | h0
    ·subst h0;omega
    ·rw[h0,Nat.add_assoc];exact hi _ x hk
   ·cases hk
 rw[hlen] at key
 exact key
theorem sx [Env] {t e:TypeId} {es:List V} {esz:Nat} {ex:Bool} {v:V} {lo hi mx:Option V} (hu:P.underlying t=some (.slice e)) {sz l hh m:Nat} (ba:bL P e=some sz) (hb:bounds (len es) (len es) lo hi mx=some (l,hh,m)) (bQ:sz=esz)
  (hv:v=.bj (dA (di l es) (hh-l)) esz ((mx.isSome||(ex&&Nat.beq hh (len es)))&&Nat.beq hh m)) {x':Value} {tn eN tp:Option Value} (hx:aq ρ (.bj es esz ex) x') (h1:OV ρ lo tn) (h2:OV ρ hi eN) (h3:OV ρ mx tp)
  (w:World):∃v',(Instr.sliceAt t x' tn eN tp).run P w=.ok v' w∧aq ρ v v':=by
 subst bQ hv
 rw[aZ] at hb⊢
 cases hx with
 | bj pf hx eN hc he=>
  rename_i c off cap' xs
  obtain⟨hr,I7,DO,xc,qy,vw,pg⟩:=fU (P:=P) hc hb h1 h2 h3 true w
  obtain⟨M,hM⟩:∃M,M=(if mx.isSome then m else cap'):=⟨_,rfl⟩
  have Xd:hh≤m:=by
   cases tq:hi.isSome with
   | true=>exact qy tq
   | false=>
    cases j5:mx.isSome with
    | true=>exact vw j5
    | false=>rw[pg tq,xc j5];exact Nat.le_refl _
  have hmM:m≤M:=by rw[hM];split<;>omega
  have DP:m≤es.length:=DO
  obtain⟨k,rfl⟩:∃k,M=l+k:=⟨M-l,by omega⟩
  have e1:l+k-l=k:=by omega
  refine⟨.slice (some (if l+k=l then⟨c,off,none⟩ else⟨c,off+l*sz,none⟩)) (hh-l) (l+k-l),?_,?_⟩
  ·simp only[Instr.sliceAt,Sem.run_bind,run_underlying hu,Result.andThen_ok,Instr.slice,hr,br ba,←hM,Sem.run_pure]
   split<;>simp [ee]
  ·rw[e1]
   have hex:((mx.isSome||(ex&&Nat.beq hh es.length))&&Nat.beq hh m)=true→k=hh-l:=by
    intro h
    rw[Bool.and_eq_true] at h
    have g1:=Nat.eq_of_beq_eq_true h.2
    cases j5:mx.isSome with
    | true=>rw[j5,if_pos rfl] at hM;omega
    | false=>
     rw[j5] at h hM
     simp only[Bool.false_or,Bool.and_eq_true,Bool.false_eq_true,if_false] at h hM
     have g2:=Nat.eq_of_beq_eq_true h.1.2
     have g3:=he h.1.1
     omega
   by_cases jS:l+k=l
   ·rw[if_pos jS]
    exact aq.part pf hx eN (by omega) (by omega) hex (.inl (by omega))
   ·rw[if_neg jS]
    exact aq.part pf hx eN (by omega) (by omega) hex (.inr rfl)
 | dM=>
  obtain⟨hr,hl,hm,_,qy,vw,pg⟩:=fU (P:=P) (Nat.le_refl _) hb h1 h2 h3 true w
  have I8:hh=0:=by
   cases hi with
   | none=>exact pg rfl
   | some _=>have:=qy rfl;simp at hm;omega
  have qz:(if mx.isSome then m else 0)=0:=by split<;>simp at hm<;>omega
  have Ba:l=0:=by omega
  refine⟨.slice none 0 0,?_,?_⟩
  ·subst Ba I8
   simp only[List.length_nil] at hr
   simp only[Instr.sliceAt,Sem.run_bind,run_underlying hu,Result.andThen_ok,Instr.slice,hr,qz,br ba]
   simp
  ·rw[eL,ek]
   simp only[List.drop_nil,List.take_nil]
   exact .dM
 | dc he=>
  rename_i cap' a
  obtain⟨hr,hl,hm,_,qy,vw,pg⟩:=fU (P:=P) (Nat.zero_le cap') hb h1 h2 h3 true w
  have I8:hh=0:=by
   cases hi with
   | none=>exact pg rfl
   | some _=>have:=qy rfl;simp at hm;omega
  have Ba:l=0:=by omega
  obtain⟨M,hM⟩:∃M,M=(if mx.isSome then m else cap'):=⟨_,rfl⟩
  refine⟨.slice (some a) 0 M,?_,?_⟩
  ·subst Ba I8
   simp only[List.length_nil] at hr
   simp only[Instr.sliceAt,Sem.run_bind,run_underlying hu,Result.andThen_ok,Instr.slice,hr,br ba,←hM,Sem.run_pure]
   split<;>simp [Addr.add]
  ·rw[eL,ek]
   simp only[List.drop_nil,List.take_nil]
   refine .dc fun h=>?_
   rw[Bool.and_eq_true] at h
   have qz:m=0:=by simp at hm;omega
   cases j5:mx.isSome with
   | true=>rw[j5,if_pos rfl] at hM;omega
   | false=>
    rw[j5] at h hM
    simp only[Bool.false_or,Bool.and_eq_true,Bool.false_eq_true,if_false] at h hM
    rw[hM];exact he h.1.1
theorem Aq [Env] {t:TypeId} {x v:V} {lo hi mx:Option V} (h:mM P t x lo hi mx=some v) {x':Value} {tn eN tp:Option Value} (hx:aq ρ x x') (h1:OV ρ lo tn) (h2:OV ρ hi eN) (h3:OV ρ mx tp)
  (w:World):∃v',(Instr.sliceAt t x' tn eN tp).run P w=.ok v' w∧aq ρ v v':=by
 unfold mM at h
 split at h
 ·rename_i s hu
  split at h
  ·cases h
  ·rename_i hmx
   have:mx=none:=by cases mx<;>simp_all
   subst this
   cases h3
   split at h
   ·rename_i l hh m hb
    cases h;cases hx
    rw[aZ] at hb
    obtain⟨hr,hl,hm,_,_⟩:=fU (P:=P) (Nat.le_refl _) hb h1 h2 .none false w
    refine⟨.string ⟨⟨di l (dA s hh)⟩⟩,?_,.str _⟩
    simp only[Instr.sliceAt,Sem.run_bind,run_underlying hu,Result.andThen_ok,Instr.slice]
    rw[show(⟨⟨s⟩⟩:ByteArray).size=s.length from rfl]
    simp only[Option.isSome_none,Bool.false_eq_true,if_false,hr,Sem.run_bind,Result.andThen_ok,Sem.run_pure]
    rw[Lib.extract_eq,ek,eL,List.drop_take]
   ·cases h
 ·rename_i e hu
  split at h
  ·rename_i sz r ba hb
   cases h;cases hx
   obtain⟨l,hh,m⟩:=r
   obtain⟨hr,hl,hm,_,qy,vw,pg⟩:=fU (P:=P) (Nat.le_refl _) hb h1 h2 h3 true w
   have I8:hh=0:=by
    cases hi with
    | none=>exact pg rfl
    | some _=>have:=qy rfl;omega
   have qz:(if mx.isSome then m else 0)=0:=by split<;>omega
   have Ba:l=0:=by omega
   refine⟨.slice none 0 0,?_,.ai⟩
   subst Ba I8
   simp only[Instr.sliceAt,Sem.run_bind,run_underlying hu,Result.andThen_ok,Instr.slice,hr,qz,br ba]
   simp
  ·cases h
 ·rename_i e b off n cap ex esz hu
  split at h
  ·rename_i sz l hh m ba hb
   split at h
   ·cases h
   ·rename_i bQ
    have bQ:sz=esz:=by simpa using bQ
    subst bQ
    split at h
    ·rename_i iK
     cases h
     cases hx with
     | slice hl hex dy hN hn=>
      rename_i cp off' cap'
      have ot:cap≤cap':=by
       cases ex with
       | true=>exact Nat.le_of_eq (hex rfl).1.symm
       | false=>exact(dy rfl).1
      obtain⟨hr,I7,DO,xc,qy,vw,pg⟩:=fU (P:=P) ot hb h1 h2 h3 true w
      obtain⟨M,hM⟩:∃M,M=(if mx.isSome then m else cap'):=⟨_,rfl⟩
      have YG:M≤cap':=by rw[hM];split<;>omega
      have Xd:hh≤m:=by
       cases tq:hi.isSome with
       | true=>exact qy tq
       | false=>
        cases j5:mx.isSome with
        | true=>exact vw j5
        | false=>rw[pg tq,xc j5];assumption
      have hmM:m≤M:=by rw[hM];split<;>omega
      obtain⟨k,rfl⟩:∃k,M=l+k:=⟨M-l,by omega⟩
      have rz:(ex||mx.isSome)=true→off'=cp.o+off:=by
       intro he
       cases ex with
       | true=>exact(hex rfl).2
       | false=>
        rcases(dy rfl).2 with h' | ⟨_,h'⟩
        ·exact h'
        ·simp only[Bool.false_or] at he
         cases mx with
         | none=>cases he
         | some _=>simp [h'] at iK
      refine⟨.slice (some (if l+k=l then⟨cp.c,off',none⟩ else⟨cp.c,off'+l*sz,none⟩)) (hh-l) (l+k-l),?_,?_⟩
      ·simp only[Instr.sliceAt,Sem.run_bind,run_underlying hu,Result.andThen_ok,Instr.slice,hr,br ba,←hM,Sem.run_pure]
       split<;>simp [ee]
      ·have e1:l+k-l=k:=by omega
       have hk:off'+(l+k)*sz≤cp.N:=Nat.le_trans (Nat.add_le_add_left (Nat.mul_le_mul_right sz YG) off') hN
       rw[Nat.add_mul] at hk
       have goal:∀(o2 tt:Nat),(o2=if l+k=l then off' else off'+l*sz)→(tt=if ((ex||mx.isSome)&&m==l)=true then off else off+l*sz)→
         aq ρ (.slice b tt (hh-l) (m-l) (ex||mx.isSome) sz) (.slice (some ⟨cp.c,o2,none⟩) (hh-l) k):=by
        intro o2 tt Q3 NJ
        refine .slice hl (fun he=>?_) (fun he=>?_) ?_ (by omega)
        ·have hoe:=rz he
         have hmk:m=l+k:=by
          rw[hM]
          cases j5:mx.isSome with
          | true=>simp
          | false=>
           rw[j5,Bool.or_false] at he
           have:=(hex he).1
           simp [xc j5,this]
         refine⟨by omega,?_⟩
         subst hmk
         rw[Q3,NJ,he]
         by_cases jS:l+k=l
         ·rw[if_pos jS,if_pos (by simpa using jS)];exact hoe
         ·rw[if_neg jS,if_neg (by simpa using jS)];omega
        ·rw[Bool.or_eq_false_iff] at he
         have hmc:=xc he.2
         rw[he.2] at hM
         simp only[Bool.false_eq_true,if_false] at hM
         obtain⟨_,hw⟩:=dy he.1
         refine⟨by omega,?_⟩
         rw[NJ,he.1,he.2]
         simp only[Bool.or_self,Bool.false_and,Bool.false_eq_true,if_false]
         by_cases jS:l+k=l
         ·exact .inr ⟨by omega,by omega⟩
         ·rcases hw with hw | hw
          ·rw[if_neg jS] at Q3
           exact .inl (by omega)
          ·exact .inr ⟨by omega,by omega⟩
        ·rw[Q3];split<;>omega
       rw[e1]
       have AD:=goal _ _ rfl rfl
       by_cases jS:l+k=l
       ·rw[if_pos jS];rw[if_pos jS] at AD;exact AD
       ·rw[if_neg jS];rw[if_neg jS] at AD;exact AD
    ·cases h
  ·cases h
 ·rename_i e es esz ex hu
  split at h
  ·rename_i sz l hh m ba hb
   split at h
   ·cases h
   ·rename_i bQ
    exact sx hu ba hb (by simpa using bQ) (Option.some.inj h).symm hx h1 h2 h3 w
  ·cases h
 ·rename_i e n f esz ex nn hu
  split at h
  ·rename_i sz l hh m ba hb
   split at h
   ·cases h
   ·rename_i bQ
    cases hx with
    | arr _ hx=>
     have bq:bounds (len (bY n f)) (len (bY n f)) lo hi mx=some (l,hh,m):=by rw[aZ,aT];exact hb
     obtain⟨v',aH,aN⟩:=sx hu ba bq (by simpa using bQ) rfl hx h1 h2 h3 w
     refine⟨v',aH,?_⟩
     have:=(Option.some.inj h).symm
     subst this
     refine .arr (fun h=>by cases h) ?_
     rw[aZ,aT] at aN
     have pg:hh≤n:=by
      obtain⟨_,_,DO,_⟩:=fU (P:=P) (Nat.le_refl n) hb h1 h2 h3 true w
      obtain⟨_,I7,_,xc,qy,vw,pg⟩:=fU (P:=P) (Nat.le_refl n) hb h1 h2 h3 true w
      cases tq:hi.isSome with
      | true=>have:=qy tq;omega
      | false=>
       cases j5:mx.isSome with
       | true=>have:=vw j5;omega
       | false=>rw[pg tq];exact Nat.le_refl _
     have e:dA (di l (bY n f)) (hh-l)=bY (hh-l) fun i=>f (Nat.add l i):=by
      rw[eL,ek]
      apply List.ext_getElem?
      intro i
      rw[List.getElem?_take]
      split
      ·rename_i eN
       rw[List.getElem?_drop,c9 (by omega),c9 eN];rfl
      ·rename_i eN
       rw[List.getElem?_eq_none (by rw[aT];omega)]
     rw[e] at aN
     exact aN
  ·cases h
 ·cases h
theorem yo [Env] (hr:R ρ σ w) {t e:TypeId} {n:Nat} {x v:V} {lo hi mx:Option V} (hu:P.underlying t=some (.array n e)) (h:jG P σ n e lo hi mx x=some v) {x':Value} {tn eN tp:Option Value} (hx:aq ρ x x')
  (h1:OV ρ lo tn) (h2:OV ρ hi eN) (h3:OV ρ mx tp):∃v',(Instr.sliceAt t x' tn eN tp).run P w=.ok v' w∧aq ρ v v':=by
 unfold jG at h
 split at h
 ·rename_i b off
  cases hx with
  | ptr hl=>
   rename_i cp
   split at h
   ·rename_i sz l hh m N z t' p ro ba hb hk
    split at h
    ·rename_i hN
     cases h
     obtain⟨aH,I7,DO,xc,qy,vw,pg⟩:=fU (P:=P) (Nat.le_refl _) hb h1 h2 h3 false w
     have hM:(if mx.isSome then m else n)=m:=by
      cases j5:mx.isSome with
      | true=>simp
      | false=>simp [xc j5]
     rw[hM] at aH
     have hN':off+n*sz≤N:=Nat.le_of_ble_eq_true hN
     have Xd:hh≤m:=by
      cases tq:hi.isSome with
      | true=>exact qy tq
      | false=>
       cases j5:mx.isSome with
       | true=>exact vw j5
       | false=>rw[pg tq,xc j5];exact Nat.le_refl _
     have xd:=(hr.cells hk hl).2.1
     have hmn:m*sz≤n*sz:=Nat.mul_le_mul_right sz DO
     refine⟨.slice (some (if m=l then⟨cp.c,cp.o+off,none⟩ else⟨cp.c,cp.o+off+l*sz,none⟩)) (hh-l) (m-l),?_,?_⟩
     ·simp only[Instr.sliceAt,Sem.run_bind,run_underlying hu,Result.andThen_ok,Instr.sureAddr,Sem.run_pure,aH,br ba]
      split<;>simp [ee]
     ·have key:∀o2 tt,o2=cp.o+tt→tt+(m-l)*sz≤N→aq ρ (.slice b tt (hh-l) (m-l) true sz) (.slice (some ⟨cp.c,o2,none⟩) (hh-l) (m-l)):=fun o2 tt ho hle=>
       .slice hl (fun _=>⟨rfl,ho⟩) (fun h=>by cases h) (by omega) (by omega)
      by_cases DP:m=l
      ·rw[if_pos DP]
       have e1:Nat.beq m l=true:=by rw[DP];exact Nat.beq_refl l
       simp only[e1]
       exact key _ _ rfl (by rw[DP,Nat.sub_self,Nat.zero_mul];omega)
      ·rw[if_neg DP]
       have e1:Nat.beq m l=false:=by
        cases hbe:Nat.beq m l with
        | true=>exact absurd (Nat.eq_of_beq_eq_true hbe) DP
        | false=>rfl
       simp only[e1]
       refine key _ _ (Nat.add_assoc _ _ _) ?_
       show off+l*sz+(m-l)*sz≤N
       have:l*sz+(m-l)*sz≤m*sz:=by
        rw[←Nat.add_mul]
        exact Nat.mul_le_mul_right sz (by omega)
       omega
    ·cases h
   ·cases h
 ·cases h
theorem au.bytes [Env]:∀(l:List UInt8),au ρ (l.map fun c=>V.int .u8 c.toNat) (l.map fun c=>Value.int .u8 c.toNat)
 | []=>.nil
 | _::l=>.cons (.int _ _) (au.bytes l)
theorem tu [Env] (hr:R ρ σ w) {sz n:Nat} {x:V} {new:List V} (h:iB σ sz x=some (n,new)) {x':Value} (hx:aq ρ x x'):
  ∃eT:List Value,(Builtin.lenOf x').run P w=.ok n w∧(∀bd:World,bd.heap=w.heap→(Builtin.firstCells sz n x').run P bd=.ok ⟨eT⟩ bd)∧au ρ new eT∧new.length=n*sz:=by
 unfold iB at h
 split at h
 ·cases h;cases hx
  exact⟨[],by simp [Builtin.lenOf],fun _ _=>by simp [Builtin.firstCells],.nil,by simp⟩
 ·rw[Option.map_eq_some_iff] at h
  obtain⟨vs,gJ,he⟩:=h
  cases he
  cases hx with
  | slice hl hex dy hN hn=>
   rename_i b off cap ex esz cp off' cap'
   by_cases hz:off'=cp.o+off
   ·subst hz
    obtain⟨xs,aH,aN,hlen⟩:=hr.loadCells (P:=P) gJ hl
    exact⟨xs,by simp [Builtin.lenOf],fun bd hw=>by simpa [Builtin.firstCells] using aH bd hw,aN,by rw[aN.length,hlen]⟩
   ·have hzero:n=0:=by
     cases ex with
     | true=>exact absurd (hex rfl).2 hz
     | false=>rcases(dy rfl).2 with h' | h'
              ·exact absurd h' hz
              ·exact h'.1
    subst hzero
    rw[Nat.zero_mul] at gJ
    unfold St.cells at gJ
    split at gJ
    ·have h':some ([]:List V)=some _:=gJ
     cases h'
     exact⟨[],by simp [Builtin.lenOf],fun _ _=>by simp [Builtin.firstCells,loadCells,loadCellsFrom],.nil,by simp⟩
    ·cases gJ
 ·split at h
  ·rename_i hs
   cases h;cases hx
   subst hs
   rw[KO,aZ]
   refine⟨_,by simp [Builtin.lenOf];rfl,fun _ _=>?_,au.bytes _,by simp⟩
   rename_i l _ _
   have:((⟨⟨l⟩⟩:ByteArray).extract 0 l.length)=⟨⟨l⟩⟩:=by rw[Lib.extract_eq];simp
   simp only[Builtin.firstCells,this,Sem.run_pure]
   simp
  ·cases h
 ·split at h
  ·rename_i hs
   cases h
   subst hs
   rw[aZ]
   cases hx with
   | bj hu hx hi hc he=>
    rename_i c off cap xs
    have hl:(ar _).length=_:=cW hu
    have zC:=hx.length
    refine⟨xs,by simp [Builtin.lenOf],fun bd hw=>?_,hx,hl⟩
    have:=hr.uS (P:=P) hi bd hw
    rw[←zC,hl] at this
    simpa [Builtin.firstCells] using this
   | dM=>exact⟨[],by simp [Builtin.lenOf],fun _ _=>by simp [Builtin.firstCells],.nil,by simp [ar]⟩
   | dc he=>exact⟨[],by simp [Builtin.lenOf],fun _ _=>by simp [Builtin.firstCells,loadCells,loadCellsFrom],.nil,by simp [ar]⟩
  ·cases h
 ·cases h
theorem nextslicecap_le {need cap:Nat} (h:cap<need):Builtin.nextslicecap need cap≤2*need+192:=by
 have g:∀(k c:Nat),c≤2*need+192→Builtin.growBy need k c≤2*need+192:=by
  intro k
  induction k with
  | zero=>intro c hc;exact hc
  | succ k ih=>
   intro c hc
   unfold Builtin.growBy
   split
   ·exact hc
   ·exact ih _ (by omega)
 unfold Builtin.nextslicecap
 split
 ·omega
 ·split
  ·omega
  ·exact g 4 cap (by omega)
theorem OW:IntKind.i64.max=9223372036854775807:=by decide
theorem js [Env] (hr:R ρ σ w) (cn:ρ id=none) {e:TypeId} {sz need:Nat} {old new:List V} {old' eT:List Value} (hold:au ρ old old') (ft:au ρ new eT)
  (hlen:old.length+new.length=need*sz) {zc:Array Value} (hz:zc.size=sz) (dr:Nat) (iU:need≤dr) (pl:Bool):
  let w':World:={w with drawn:=w.drawn+1}
  let vz:World:={w' with heap:=w'.heap.push (.cells ((⟨old'⟩:Array Value)++(⟨eT⟩:Array Value)++Builtin.zeroCells zc (dr-need)) e (0,0))}
  ∃l,bc (fun b=>b=id) ρ σ w (kP ρ id l) (grown σ id sz need (app old new) pl).2 vz∧aq (kP ρ id l) (grown σ id sz need (app old new) pl).1 (.slice (some ⟨w.heap.size,0,none⟩) need dr):=by
 intro w' vz
 have hzl:(Builtin.zeroCells zc (dr-need)).size=(dr-need)*sz:=by simp [Builtin.zeroCells,hz]
 have Q4:=hold.length
 have DQ:=ft.length
 have hN:((⟨old'⟩:Array Value)++(⟨eT⟩:Array Value)++Builtin.zeroCells zc (dr-need)).size=dr*sz:=by
  simp only[Array.size_append,hzl,List.size_toArray]
  rw[←Q4,←DQ,hlen,←Nat.add_mul]
  congr 1;omega
 have hR:vz.heap[w.heap.size]? =some (.cells ((⟨old'⟩:Array Value)++(⟨eT⟩:Array Value)++Builtin.zeroCells zc (dr-need)) e (0,0)):=by
  show(w.heap.push _)[w.heap.size]? =_
  simp
 refine⟨⟨w.heap.size,0,dr*sz⟩,?_,?_⟩
 ·refine bc.alloc hr cn (w':=vz) rfl rfl rfl rfl (.cells ⟨e,?_⟩ ?_ (fun i v hi=>?_) (fun _ i _=>?_) (fun _ i=>?_))
  ·unfold World.shape?
   rw[hR]
   simp only[hN]
  ·simpa using Nat.mul_le_mul_right sz iU
  ·rw[gD] at hi
   rcases fM hi with ⟨_,h2,h3⟩ | ⟨_,h2⟩
   ·obtain⟨x,cE,aN⟩:=(hold.append ft).get _ h3
    refine⟨x,?_,aN.mono (jq ρ _ cn)⟩
    have bz:i<(old'++eT).length:=by rw[List.length_append,←Q4,←DQ];simpa using h2
    have YH:(old'++eT)[i]? =some x:=by simpa using cE
    simp only[World.cell?,hR,Nat.zero_add]
    simp only[Option.isSome_none,Bool.false_eq_true,if_false]
    rw[Array.getElem?_append_left (by simpa using bz)]
    simpa using YH
   ·unfold cellOf at h2
    split at h2
    ·rw[Trie.eG] at h2;simp [dz] at h2
    ·cases h2
  ·simp [World.frozen?,hR]
  ·simp [World.frozen?,hR]
 ·exact .slice (l:=⟨w.heap.size,0,dr*sz⟩) (jo _ _ _) (by simp) (fun _=>⟨iU,.inl rfl⟩) (by simp) (Nat.le_refl _)
theorem yp [Env] (hr:R ρ σ w) {b off n cap k sz:Nat} {ex:Bool} {old:List V} (h:σ.cells b off (n*sz)=some old) {cp:Loc} {off' cap':Nat} (hl:ρ b=some cp)
  (hex:ex=true→cap'=cap∧off'=cp.o+off) (dy:ex=false→cap≤cap'∧(off'=cp.o+off∨(n=0∧cap=0))):
  ∃old':List Value,(∀bd:World,bd.heap=w.heap→(Builtin.firstCells sz n (.slice (some ⟨cp.c,off',none⟩) n k)).run P bd=.ok ⟨old'⟩ bd)∧au ρ old old'∧old.length=n*sz:=by
 by_cases hz:off'=cp.o+off
 ·subst hz
  obtain⟨xs,aH,aN,hlen⟩:=hr.loadCells (P:=P) h hl
  exact⟨xs,fun bd hw=>by simpa [Builtin.firstCells] using aH bd hw,aN,by rw[aN.length,hlen]⟩
 ·have hzero:n=0:=by
   cases ex with
   | true=>exact absurd (hex rfl).2 hz
   | false=>
    rcases(dy rfl).2 with h' | h'
    ·exact absurd h' hz
    ·exact h'.1
  subst hzero
  rw[Nat.zero_mul] at h
  unfold St.cells at h
  split at h
  ·have h':some ([]:List V)=some _:=h
   cases h'
   exact⟨[],fun _ _=>by simp [Builtin.firstCells,loadCells,loadCellsFrom],.nil,by simp⟩
  ·cases h
theorem hY [Env] {tys:Array TypeId} {ty t t' e:TypeId} {i:TypeInfo} {d:TypeDesc} {s x:Value} {base:Option Addr} {eg gT n sz:Nat} {old new:List Value} {zv:Value}
  (ht:tys[0]? =some t) (eU:tys[1]? =some t') (hu:P.underlying t=some (.slice e)) (hd:P.underlying t'=some d) (iy:∀k,d≠.int k) (ba:bL P e=some sz) (hi:P.info? e=some i)
  (hs:s=.slice base eg gT) (hlen:(Builtin.lenOf x).run P w=.ok n w) (hz:∀w,(zeroValue e).run P w=.ok zv w) (mT:¬eg+n≤gT) (ou:i.bytes≠0) (dS:(eg+n)*i.bytes≤1099511627776)
  (hold:∀bd:World,bd.heap=w.heap→(Builtin.firstCells sz eg s).run P bd=.ok ⟨old⟩ bd) (ft:∀bd:World,bd.heap=w.heap→(Builtin.firstCells sz n x).run P bd=.ok ⟨new⟩ bd):
  ∃dr,eg+n≤dr∧(Builtin.append_ tys ty #[s,x]).run P w=
   .ok (.slice (some ⟨w.heap.size,0,none⟩) (eg+n) dr) {w with drawn:=w.drawn+1,heap:=w.heap.push (.cells ((⟨old⟩:Array Value)++(⟨new⟩:Array Value)++Builtin.zeroCells zv.cells (dr-(eg+n))) e (0,0))}:=by
 have Bb:1≤i.bytes:=by omega
 have Vy:eg+n≤1099511627776:=Nat.le_trans (Nat.le_mul_of_pos_right _ Bb) dS
 have Vz:Builtin.nextslicecap (eg+n) gT*i.bytes≤2^48:=by
  have h1:=nextslicecap_le (need:=eg+n) (cap:=gT) (by omega)
  have h2:Builtin.nextslicecap (eg+n) gT*i.bytes≤(2*(eg+n)+192)*i.bytes:=Nat.mul_le_mul_right _ h1
  have h3:(2*(eg+n)+192)*i.bytes=2*((eg+n)*i.bytes)+192*i.bytes:=by rw[Nat.add_mul,Nat.mul_assoc]
  have h4:i.bytes≤1099511627776:=Nat.le_trans (Nat.le_mul_of_pos_left _ (by omega)) dS
  omega
 have KT:eg+n≤(Question.appendCap (eg+n) gT e).cut (w.tape w.drawn (.appendCap (eg+n) gT e)):=by simp [Question.cut]
 refine⟨(Question.appendCap (eg+n) gT e).cut (w.tape w.drawn (.appendCap (eg+n) gT e)),KT,?_⟩
 have hm:(match d with | .int _=>true | _=>false)=false:=by cases d<;>first | rfl | exact absurd rfl (iy _)
 subst hs
 have ho:=hold {w with drawn:=w.drawn+1} rfl
 have hn:=ft {w with drawn:=w.drawn+1} rfl
 have jT:(#[Value.slice base eg gT,x]:Array Value)[0]? =some (Value.slice base eg gT):=rfl
 have zB:(#[Value.slice base eg gT,x]:Array Value)[1]? =some x:=rfl
 simp only[Builtin.append_,ht,eU,jT,zB,Sem.run_bind,run_underlying hu,run_underlying hd,Result.andThen_ok,br ba,Sem.run_pure,Bool.false_eq_true,if_false,hlen]
 have Q5:¬(((eg+n:Nat):Int)>IntKind.i64.max∧(False∨i.bytes=0)):=by simp [ou]
 have Q6:¬(Builtin.nextslicecap (eg+n) gT*i.bytes>2^48):=by omega
 have qA:(Question.appendCap (eg+n) gT e).forced=false:=rfl
 rw[if_neg mT]
 simp only[Sem.run_bind,run_typeInfo hi,Result.andThen_ok,if_neg Q5,if_neg Q6,run_choose,qA,Bool.false_eq_true,if_false,run_askRoom,ho,hn,Bool.not_false,if_true,hz,Sem.run_pure]
 rfl
theorem gk [Env] {tys:Array TypeId} {ty t t' e:TypeId} {d:TypeDesc} {x:Value} {base:Option Addr} {eg gT n sz:Nat} {new:List Value} {w':World}
  (ht:tys[0]? =some t) (eU:tys[1]? =some t') (hu:P.underlying t=some (.slice e)) (hd:P.underlying t'=some d) (iy:∀k,d≠.int k) (ba:bL P e=some sz)
  (hlen:(Builtin.lenOf x).run P w=.ok n w) (wm:eg+n≤gT) (ft:(Builtin.firstCells sz n x).run P w=.ok ⟨new⟩ w)
  (az:match base with | some a=>(storeCells (a.add (eg*sz)) new).run P w=.ok () w' | none=>w'=w):
  (Builtin.append_ tys ty #[.slice base eg gT,x]).run P w=.ok (.slice base (eg+n) gT) w':=by
 have hm:(match d with | .int _=>true | _=>false)=false:=by cases d<;>first | rfl | exact absurd rfl (iy _)
 have jT:(#[Value.slice base eg gT,x]:Array Value)[0]? =some (Value.slice base eg gT):=rfl
 have zB:(#[Value.slice base eg gT,x]:Array Value)[1]? =some x:=rfl
 simp only[Builtin.append_,ht,eU,jT,zB,Sem.run_bind,run_underlying hu,run_underlying hd,Result.andThen_ok,br ba,Sem.run_pure,Bool.false_eq_true,if_false,hlen]
 rw[if_pos wm]
 cases base with
 | none=>
  subst az
  simp only[Sem.run_bind,Bool.not_false,if_true,ft,Result.andThen_ok,Sem.run_pure]
 | some a=>
  dsimp only at az
  simp only[Sem.run_bind,Bool.not_false,if_true,ft,Result.andThen_ok,Sem.run_pure,az]
theorem Dj {t:TypeId} (h:intType P t=false):∃d,P.underlying t=some d∧∀k,d≠.int k:=by
 unfold intType at h
 split at h
 ·cases h
 ·rename_i d hn hu
  exact⟨d,hu,fun k e=>hn k e⟩
 ·cases h
theorem Dk [Env] (hr:R ρ σ w) (cn:ρ id=none) {b off m cap' n sz:Nat} {old new:List V} {eT:List Value} {pl:Bool} {cp:Loc} {off':Nat} (hold:σ.cells b off (m*sz)=some old) (hl:ρ b=some cp)
  (hz:off'=cp.o+off∨m=0) (sw:ob σ b=some pl) (hN:off'+cap'*sz≤cp.N) (wm:m+n≤cap') (iL:au ρ new eT) (nv:new.all V.scalar=true) (mw:new.length=n*sz):
  ∃w',(storeCells ((⟨cp.c,off',none⟩:Addr).add (m*sz)) eT).run P w=.ok () w'∧
   bc (fun b=>b=id) ρ σ w (kP ρ id ⟨cp.c,off',cp.N⟩) (grown (σ.kill b) id sz (m+n) (app old new) pl).2 w':=by
 unfold ob at sw
 split at sw
 ·rename_i nb zb tb pb hb
  cases sw
  obtain⟨⟨ty,hs⟩,hnb,hv,hf,hp⟩:=hr.cells hb hl
  have hmn:(m+n)*sz≤cap'*sz:=Nat.mul_le_mul_right sz wm
  have KU:(m+n)*sz=m*sz+n*sz:=Nat.add_mul ..
  have hlen:=iL.length
  have jf:∀j,j<eT.length→(w.cell? ⟨cp.c,off'+m*sz+j,none⟩).isSome=true:=fun j hj=>ku hs (by omega)
  have OX:old.length=m*sz∧∀i v,old[i]? =some v→∃x,w.cell? ⟨cp.c,off'+i,none⟩=some x∧aq ρ v x:=by
   unfold St.cells at hold
   rw[hb] at hold
   obtain⟨h1,h2⟩:=gh _ _ hold
   refine⟨h1,fun i v hi=>?_⟩
   obtain⟨x,hx,aN⟩:=hv _ _ (h2 i v hi)
   refine⟨x,?_,aN⟩
   rcases hz with hz | hz
   ·rw[hz,Nat.add_assoc];exact hx
   ·subst hz
    rw[Nat.zero_mul] at h1
    have:old=[]:=List.eq_nil_of_length_eq_zero h1
    subst this
    simp at hi
  obtain⟨Q4,hoc⟩:=OX
  refine⟨w.setCells cp.c (off'+m*sz) eT,?_,?_⟩
  ·rw[ee]
   have:=run_storeCells_cells (P:=P) cp.c (off'+m*sz) eT 0 w (by simpa using jf) (fun j hj=>by simpa using hf rfl (off'+m*sz+j) (by omega)) (iL.l0 nv)
   simpa using this
  ·obtain⟨r1,r2,r3⟩:=kh cp.c eT (off'+m*sz) w
   refine bc.Vv (l:=⟨cp.c,off',cp.N⟩) hr cn hb rfl hl rfl (kg _ _ _ _) (fun c hc=>gv _ _ _ _ _ hc) r1 r2 r3 ?_
   refine .cells ⟨ty,by rw[jI];exact hs⟩ (by dsimp only;omega) (fun i v hi=>?_) (fun gH i hi=>by rw[World.frozen?_setCells];exact hf rfl i hi) (fun qw i=>by rw[World.frozen?_setCells];exact hp qw i)
   rw[gD] at hi
   rcases fM hi with ⟨_,h2,h3⟩ | ⟨_,h2⟩
   ·rw[Nat.sub_zero] at h3
    by_cases hio:i<old.length
    ·rw[List.getElem?_append_left hio] at h3
     obtain⟨x,hx,aN⟩:=hoc i v h3
     refine⟨x,?_,aN.mono (jq ρ _ cn)⟩
     rw[World.cell?_setCells_out cp.c eT (off'+m*sz) w _ (fun _ _=>by dsimp only;omega)]
     exact hx
    ·rw[List.getElem?_append_right (by omega)] at h3
     obtain⟨x,hx,aN⟩:=iL.get _ h3
     refine⟨x,?_,aN.mono (jq ρ _ cn)⟩
     have hj:i-old.length<eT.length:=by
      rw[←hlen]
      exact(List.getElem?_eq_some_iff.1 h3).1
     have:=World.cell?_setCells_in cp.c eT (off'+m*sz) w jf (i-old.length) hj
     rw[show off'+m*sz+(i-old.length)=off'+i by omega] at this
     rw[this]
     rw[List.getElem?_eq_getElem hj] at hx
     exact hx
   ·unfold cellOf at h2
    split at h2
    ·rw[Trie.eG] at h2;simp [dz] at h2
    ·cases h2
 ·cases sw
theorem gL [Env] (hr:R ρ σ w) (cn:ρ id=none) {tys:Array TypeId} {ty t t':TypeId} (ht:tys[0]? =some t) (eU:tys[1]? =some t') (nw:intType P t'=false) {s x v:V} {σ':St}
  (h:iC P σ id t s x=some (v,σ')) {s' x':Value} (hs:aq ρ s s') (hx:aq ρ x x'):
  ∃ρ' v' w',(Builtin.append_ tys ty #[s',x']).run P w=.ok v' w'∧aq ρ' v v'∧bc (fun b=>b=id) ρ σ w ρ' σ' w':=by
 obtain⟨d,hd,iy⟩:=Dj nw
 unfold iC at h
 split at h
 ·rename_i e hu
  split at h
  ·rename_i sz c7 z ba ou hz
   split at h
   ·cases h
   ·rename_i iK
    rw[not_or,not_or] at iK
    obtain⟨c1,c2,c3⟩:=iK
    rw[aZ,ne_eq,Decidable.not_not] at c3
    obtain⟨i,hi,rfl⟩:=ru ou
    obtain⟨zv,gy,pd⟩:=gI (P:=P) hz ρ
    have ny:zv.cells.size=sz:=by rw[←c3,pd.cells.length];simp
    split at h
    ·cases h
    ·rename_i n new ft
     obtain⟨eT,hlen,gM,iL,mw⟩:=tu (P:=P) hr ft hx
     unfold gn at h
     split at h
     ·split at h
      ·rename_i jU
       cases h;cases hs
       subst jU
       exact⟨ρ,_,w,gk ht eU hu hd iy ba hlen (by omega) (gM w rfl) (base:=none) rfl,.ai,bc.refl hr⟩
      ·rename_i jU
       split at h
       ·rename_i dS
        cases hs
        obtain⟨dr,iU,aH⟩:=hY (tys:=tys) (ty:=ty) (w:=w) (n:=n) (x:=x') (old:=[]) (new:=eT) ht eU hu hd iy ba hi (s:=.slice none 0 0) rfl hlen gy (by omega) c2 (by simpa using dS)
         (fun bd _=>by simp [Builtin.firstCells]) gM
        rw[Nat.zero_add] at iU aH
        obtain⟨l,fV,hv⟩:=js (e:=e) hr cn (old:=[]) (old':=[]) .nil iL (by simpa using mw) ny dr iU true
        have hh:some (grown σ id sz n new true)=some (v,σ'):=h
        cases hh
        exact⟨_,_,_,aH,hv,fV⟩
       ·cases h
     ·rename_i b off m cap ex esz
      cases hs with
      | slice hl hex dy hN hn=>
       rename_i cp off' cap'
       have ot:cap≤cap':=by
        cases ex with
        | true=>exact Nat.le_of_eq (hex rfl).1.symm
        | false=>exact(dy rfl).1
       split at h
       ·cases h
       ·rename_i bQ
        have bQ:sz=esz:=by simpa using bQ
        subst bQ
        split at h
        ·rename_i jU
         subst jU
         cases h
         have rA:eT=[]:=by
          have:=iL.length
          rw[mw,Nat.zero_mul] at this
          exact List.eq_nil_of_length_eq_zero this.symm
         subst rA
         exact⟨ρ,_,w,gk ht eU hu hd iy ba hlen (by omega) (gM w rfl) (base:=some _) rfl,.slice hl hex dy hN (by omega),bc.refl hr⟩
        split at h
        ·rename_i wm
         rw[Option.map_eq_some_iff] at h
         obtain⟨aB,az,he⟩:=h
         cases he
         obtain⟨w',aH,fV⟩:=hr.store (P:=P) (ids:=fun b=>b=id) az hl iL
         by_cases hz:off'=cp.o+off
         ·subst hz
          refine⟨ρ,_,w',gk ht eU hu hd iy ba hlen (by omega) (gM w rfl) (base:=some _) ?_,.slice hl hex (fun he=>?_) hN (by omega),fV⟩
          ·dsimp only
           rw[ee,Nat.add_assoc]
           exact aH
          ·exact⟨ot,.inl rfl⟩
         ·have hzero:m=0∧cap=0:=by
           cases ex with
           | true=>exact absurd (hex rfl).2 hz
           | false=>
            rcases(dy rfl).2 with h' | h'
            ·exact absurd h' hz
            ·exact h'
          have jU:n=0:=by omega
          subst jU
          have rA:eT=[]:=by
           have:=iL.length
           rw[mw,Nat.zero_mul] at this
           exact List.eq_nil_of_length_eq_zero this.symm
          subst rA
          have hw:w'=w:=by
           have h1:(storeCells (⟨cp.c,cp.o+(off+m*sz),none⟩:Addr) []).run P w=.ok () w:=rfl
           rw[h1] at aH
           injection aH with _ h2
           exact h2.symm
          subst hw
          exact⟨ρ,_,w',gk ht eU hu hd iy ba hlen (by omega) (gM w' rfl) (base:=some _) rfl,.slice hl hex (fun he=>⟨ot,.inr ⟨by omega,hzero.2⟩⟩) hN (by omega),fV⟩
        ·rename_i wm
         split at h
         ·rename_i dS
          rw[Option.bind_eq_some_iff] at h
          obtain⟨old,hold,h⟩:=h
          obtain⟨old',NL,NM,VA⟩:=yp (P:=P) (k:=cap') hr hold hl hex dy
          have KU:old.length+new.length=(m+n)*sz:=by rw[VA,mw,Nat.add_mul]
          unfold nD at h
          split at h
          ·have hce:=(hex rfl).1
           obtain⟨dr,iU,aH⟩:=hY (tys:=tys) (ty:=ty) (w:=w) (n:=n) (x:=x') (old:=old') (new:=eT) ht eU hu hd iy ba hi rfl hlen gy (by omega) c2 dS NL gM
           obtain⟨l,fV,hv⟩:=js (e:=e) hr cn NM iL KU ny dr iU true
           have hh:some (grown σ id sz (m+n) (app old new) true)=some (v,σ'):=h
           cases hh
           exact⟨_,_,_,aH,hv,fV⟩
          ·split at h
           ·rename_i pl sw nv
            rw[q9] at nv
            have hh:some (grown (σ.kill b) id sz (m+n) (app old new) pl)=some (v,σ'):=h
            cases hh
            by_cases GB:m+n≤cap'
            ·have hz:off'=cp.o+off∨m=0:=(dy rfl).2.imp (fun h=>h) And.left
             obtain⟨w',az,fV⟩:=Dk (P:=P) hr cn hold hl hz sw hN GB iL nv mw
             exact⟨_,_,w',gk ht eU hu hd iy ba hlen GB (gM w rfl) (base:=some _) az,
              .slice (l:=⟨cp.c,off',cp.N⟩) (jo _ _ _) (by simp) (fun _=>⟨GB,.inl rfl⟩) (by simpa using hN) (Nat.le_refl _),fV⟩
            ·obtain⟨dr,iU,aH⟩:=hY (tys:=tys) (ty:=ty) (w:=w) (n:=n) (x:=x') (old:=old') (new:=eT) ht eU hu hd iy ba hi rfl hlen gy GB c2 dS NL gM
             have hk:=bc.kill (ids:=fun b=>b=id) hr b
             obtain⟨l,fV,hv⟩:=js (e:=e) hk.r cn NM iL KU ny dr iU pl
             exact⟨_,_,_,aH,hv,hk.trans fV⟩
           ·cases h
         ·cases h
     ·rename_i es esz
      split at h
      ·cases h
      ·rename_i bQ
       have bQ:sz=esz:=by simpa using bQ
       subst bQ
       split at h
       ·rename_i jU
        subst jU
        cases h
        have rA:eT=[]:=by
         have:=iL.length
         rw[mw,Nat.zero_mul] at this
         exact List.eq_nil_of_length_eq_zero this.symm
        subst rA
        cases hs with
        | bj pf cE eN gx jt=>exact⟨ρ,_,w,gk ht eU hu hd iy ba hlen (by omega) (gM w rfl) (base:=some _) rfl,.bj pf cE eN (by omega) jt,bc.refl hr⟩
        | dM=>exact⟨ρ,_,w,gk ht eU hu hd iy ba hlen (by omega) (gM w rfl) (base:=none) rfl,.dM,bc.refl hr⟩
        | dc jt=>exact⟨ρ,_,w,gk ht eU hu hd iy ba hlen (by omega) (gM w rfl) (base:=some _) rfl,.dc jt,bc.refl hr⟩
       ·rename_i jU
        split at h
        ·rename_i dS
         rw[aZ] at h dS
         have hh:some (grown σ id sz (es.length+n) (app (ar es) new) true)=some (v,σ'):=h
         cases hh
         cases hs with
         | bj pf cE eN gx jt=>
          rename_i c off cap xs
          have hce:=jt rfl
          have hl:=cW pf
          have zC:=cE.length
          obtain⟨dr,iU,aH⟩:=hY (tys:=tys) (ty:=ty) (w:=w) (n:=n) (x:=x') (old:=xs) (new:=eT) (s:=.slice (some ⟨c,off,none⟩) es.length cap) ht eU hu hd iy ba hi rfl hlen gy (by omega) c2 dS
           (fun bd hw=>by
            have:=hr.uS (P:=P) eN bd hw
            rw[←zC,hl] at this
            simpa [Builtin.firstCells] using this) gM
          obtain⟨l,fV,hv⟩:=js (e:=e) hr cn cE iL (need:=es.length+n) (by rw[hl,mw,Nat.add_mul]) ny dr iU true
          exact⟨_,_,_,aH,hv,fV⟩
         | dM=>
          obtain⟨dr,iU,aH⟩:=hY (tys:=tys) (ty:=ty) (w:=w) (n:=n) (x:=x') (old:=[]) (new:=eT) (s:=.slice none 0 0) ht eU hu hd iy ba hi rfl hlen gy (by omega) c2 dS
           (fun bd hw=>by simp [Builtin.firstCells]) gM
          obtain⟨l,fV,hv⟩:=js (e:=e) hr cn (old:=ar []) (old':=[]) .nil iL (need:=0+n) (by simpa [ar] using mw) ny dr iU true
          exact⟨_,_,_,aH,hv,fV⟩
         | dc jt=>
          rename_i cap a
          have h0:=jt rfl
          subst h0
          obtain⟨dr,iU,aH⟩:=hY (tys:=tys) (ty:=ty) (w:=w) (n:=n) (x:=x') (old:=[]) (new:=eT) (s:=.slice (some a) 0 0) ht eU hu hd iy ba hi rfl hlen gy (by omega) c2 dS
           (fun bd hw=>by simp [Builtin.firstCells,loadCells,loadCellsFrom]) gM
          obtain⟨l,fV,hv⟩:=js (e:=e) hr cn (old:=ar []) (old':=[]) .nil iL (need:=0+n) (by simpa [ar] using mw) ny dr iU true
          exact⟨_,_,_,aH,hv,fV⟩
        ·cases h
     ·cases h
  ·cases h
 ·cases h
theorem fO {es:List V} {esz:Nat} (h:∀v∈es,v.cells.length=esz) {i:Nat} {u:V} (hi:es[i]? =some u) {k:Nat} (hk:k<esz):(ar es)[i*esz+k]? =u.cells[k]? :=by
 induction es generalizing i with
 | nil=>simp at hi
 | cons v es ih=>
  have hv:=h v List.mem_cons_self
  rw[bO]
  cases i with
  | zero=>
   simp at hi;subst hi
   rw[Nat.zero_mul,Nat.zero_add,List.getElem?_append_left (by omega)]
  | succ i=>
   rw[List.getElem?_append_right (by rw[hv,Nat.add_mul];omega),hv,show(i+1)*esz+k-esz=i*esz+k by rw[Nat.add_mul];omega]
   exact ih (fun u hu=>h u (List.mem_cons_of_mem _ hu)) (by simpa using hi)
theorem aq.I9 [Env] {m:Nat} {g:Nat→V} {esz:Nat} {ex:Bool} {x:Value} (h:aq ρ (.bj (bY m g) esz ex) x):∀i,i<m→(g i).cells.length=esz:=by
 intro i hi
 have bQ:bY m g≠[]:=fun e=>by have:=aT m g;rw[e] at this;simp at this;omega
 generalize he:bY m g=es at h
 cases h with
 | bj hu=>exact hu (g i) (by rw[←he];exact List.mem_of_getElem? (c9 hi))
 | dM=>exact absurd he bQ
 | dc=>exact absurd he bQ
theorem tw [Env] {ρ':Ren} {w':World} {sz m:Nat} {g:Nat→V} {cs:List V} (dC:cs=ar (bY m g)) (h:bc (fun b=>b=id) ρ σ w ρ' (grown σ id sz m cs true).2 w') (hu:∀i,i<m→(g i).cells.length=sz):
  bc (fun b=>b=id) ρ σ w ρ' (σ.new id (.row m g sz true)) w':=by
 subst dC
 have cL:∀v∈bY m g,v.cells.length=sz:=by
  intro v hv
  obtain⟨i,hi,rfl⟩:=List.getElem_of_mem hv
  rw[aT] at hi
  have:=c9 (f:=g) hi
  rw[List.getElem?_eq_getElem (by rw[aT];exact hi)] at this
  rw[Option.some.inj this];exact hu i hi
 refine h.uT (b:=id) (n:=m) (f:=g) (esz:=sz) (z:=[]) (t:=an (ar (bY m g)) .leaf 0) (p:=true) (by show(σ.new id _).heap.get id=_;rw[fr,Trie.bN,if_pos rfl]) hu (fun i hi k v hk=>?_) (fun b'=>?_) (by show(σ.new id _).next=(σ.new id _).next;rw[kt,kt])
 ·have Ja:k<sz:=by rw[←hu i hi];exact(List.getElem?_eq_some_iff.1 hk).1
  have bz:i*sz+k<m*sz:=by have:=kv hi (Nat.succ_le_of_lt Ja);omega
  unfold cellOf
  have hb:Nat.blt (i*sz+k) (m*sz)=true:=by rw[Nat.blt_eq];exact bz
  rw[hb]
  dsimp only
  have Q7:(ar (bY m g)).length=m*sz:=by rw[cW cL,aT]
  rw[jH,if_pos ⟨Nat.zero_le _,by rw[Q7];omega⟩,Nat.sub_zero,fO cL (c9 hi) Ja,hk]
 ·show(σ.new id _).heap.get b'=if b'=id then _ else(σ.new id _).heap.get b'
  rw[fr,fr,Trie.bN,Trie.bN]
  by_cases e:b'=id
  ·rw[if_pos e,if_pos e]
  ·rw[if_neg e,if_neg e,if_neg e]
theorem ln [Env] {ρ':Ren} {m sz:Nat} {v':Value} (hm:m≠0) (h:aq ρ' (.slice id 0 m m false sz) v'):aq ρ' (.own id m sz) v':=by
 cases h with
 | slice hl hex dy hN hn=>
  obtain⟨h1,h2⟩:=dy rfl
  rcases h2 with h2 | h2
  ·subst h2;exact .own hl h1 (by simpa using hN)
  ·exact absurd h2.1 hm
theorem Ar [Env] (hr:R ρ σ w) (cn:ρ id=none) {tys:Array TypeId} {ty t t':TypeId} (ht:tys[0]? =some t) (eU:tys[1]? =some t') (nw:intType P t'=false) {m esz:Nat} {g:Nat→V} {ex nn:Bool} {s v:V} {σ':St}
  (h:mN P σ id t m g esz s=some (v,σ')) {s' x':Value} (hs:aq ρ s s') (hx:aq ρ (.arr m g esz ex nn) x'):
  ∃ρ' v' w',(Builtin.append_ tys ty #[s',x']).run P w=.ok v' w'∧aq ρ' v v'∧bc (fun b=>b=id) ρ σ w ρ' σ' w':=by
 cases hx with
 | arr _ hx=>
 have hu:=aq.I9 hx
 unfold mN at h
 split at h
 ·rename_i e Q8
  split at h
  ·rename_i sz c7 z ba ou hz
   split at h
   ·cases h
   ·rename_i iK
    rw[not_or,not_or,not_or] at iK
    obtain⟨c1,c2,c3,c4⟩:=iK
    rw[ne_eq,Decidable.not_not] at c4
    subst c4
    have base:∀KV,iC P σ id t KV (.bj (bY m g) sz ex)=gn σ id sz c7 m (ar (bY m g)) KV:=by
     intro KV
     unfold iC
     rw[Q8]
     dsimp only
     rw[ba,ou,hz]
     dsimp only
     rw[if_neg (by rw[not_or,not_or];exact⟨c1,c2,c3⟩)]
     unfold iB
     dsimp only
     rw[if_pos rfl,aZ,aT]
    unfold iu at h
    split at h
    ·split at h
     ·rename_i hm
      refine gL hr cn ht eU nw (x:=.bj (bY m g) sz ex) ?_ hs hx
      rw[base];unfold gn;dsimp only;rw[if_pos hm];exact h
     ·rename_i hm
      split at h
      ·rename_i dS
       cases h
       obtain⟨ρ',v',w',aH,hv,az⟩:=gL hr cn ht eU nw (x:=.bj (bY m g) sz ex) (s:=.ai) (v:=(grown σ id sz m (ar (bY m g)) true).1) (σ':=(grown σ id sz m (ar (bY m g)) true).2) (by
        rw[base];unfold gn;dsimp only;rw[if_neg hm,if_pos dS]) hs hx
       exact⟨ρ',v',w',aH,ln hm hv,tw rfl az hu⟩
      ·cases h
    ·rename_i n f rB nn
     split at h
     ·cases h
     ·rename_i hn
      rw[not_or,ne_eq,Decidable.not_not,ne_eq,Decidable.not_not] at hn
      obtain⟨rfl,rfl⟩:=hn
      cases hs with
      | arr _ hs=>
      have h0:bY 0 f=[]:=rfl
      rw[h0] at hs
      split at h
      ·rename_i hm
       cases h
       obtain⟨ρ',v',w',aH,hv,az⟩:=gL hr cn ht eU nw (x:=.bj (bY m g) sz ex) (s:=.bj [] sz true) (v:=.bj [] sz true) (σ':=σ) (by
        rw[base];unfold gn;dsimp only;rw[if_neg (by simp),if_pos hm]) hs hx
       exact⟨ρ',v',w',aH,.arr (fun h=>by cases h) hv,az⟩
      ·rename_i hm
       split at h
       ·rename_i dS
        cases h
        obtain⟨ρ',v',w',aH,hv,az⟩:=gL hr cn ht eU nw (x:=.bj (bY m g) sz ex) (s:=.bj [] sz true) (v:=(grown σ id sz m (ar (bY m g)) true).1) (σ':=(grown σ id sz m (ar (bY m g)) true).2) (by
         rw[base];unfold gn;dsimp only
         rw[if_neg (by simp),if_neg hm,show len ([]:List V)+m=m from Nat.zero_add m,if_pos dS];rfl) hs hx
        exact⟨ρ',v',w',aH,ln hm hv,tw rfl az hu⟩
       ·cases h
    ·rename_i b off n cap rB
     split at h
     case h_2=>cases h
     rename_i dC
     split at h
     ·cases h
     ·rename_i hn
      rw[not_or,not_or,ne_eq,Decidable.not_not,ne_eq,Decidable.not_not,ne_eq,Decidable.not_not] at hn
      obtain⟨rfl,rfl,rfl⟩:=hn
      split at h
      ·rename_i hm
       cases h
       exact gL hr cn ht eU nw (x:=.bj (bY m g) sz ex) (s:=.slice b off 0 0 true sz) (v:=.slice b off 0 0 true sz) (σ':=σ) (by
        rw[base];unfold gn;dsimp only;rw[if_neg (by simp),if_pos hm]) hs hx
      ·rename_i hm
       split at h
       ·rename_i dS
        cases h
        obtain⟨ρ',v',w',aH,hv,az⟩:=gL hr cn ht eU nw (x:=.bj (bY m g) sz ex) (s:=.slice b off 0 0 true sz) (v:=(grown σ id sz m (ar (bY m g)) true).1) (σ':=(grown σ id sz m (ar (bY m g)) true).2) (by
         rw[base];unfold gn;dsimp only
         rw[if_neg (by simp),if_neg hm,if_neg (by omega),Nat.zero_add,if_pos dS,Nat.zero_mul,dC];rfl) hs hx
        exact⟨ρ',v',w',aH,ln hm hv,tw rfl az hu⟩
       ·cases h
    ·cases h
  ·cases h
 ·cases h
theorem fW {n:Nat} {g:Nat→V} {esz:Nat} (hu:∀i,i<n→(g i).cells.length=esz):∀v∈bY n g,v.cells.length=esz:=by
 intro v hv
 obtain⟨i,hi,rfl⟩:=List.getElem_of_mem hv
 rw[aT] at hi
 have:=c9 (f:=g) hi
 rw[List.getElem?_eq_getElem (by rw[aT];exact hi)] at this
 rw[Option.some.inj this];exact hu i hi
theorem Q9 [Env] {l:Loc} {n:Nat} {f:Nat→V} {esz:Nat} {p:Bool} (h:cz ρ w l (.row n f esz p)) {k:Nat} {v:V} (hk:(ar (bY n f))[k]? =some v):∃x,w.cell? ⟨l.c,l.o+k,none⟩=some x∧aq ρ v x:=by
 cases h with
 | row hs hn hu hv hf hp=>
  have cL:=fW hu
  have bz:k<n*esz:=by
   have:=(List.getElem?_eq_some_iff.1 hk).1
   rw[cW cL,aT] at this;exact this
  have h0:0<esz:=by
   rcases Nat.eq_zero_or_pos esz with h | h
   ·subst h;simp at bz
   ·exact h
  have hi:k/esz<n:=(Nat.div_lt_iff_lt_mul h0).2 bz
  have eA:k%esz<esz:=Nat.mod_lt _ h0
  have e:k/esz*esz+k%esz=k:=by rw[Nat.mul_comm];exact Nat.div_add_mod k esz
  have hg:=fO cL (c9 (f:=f) hi) eA
  rw[e,hk] at hg
  obtain⟨x,hx,hr⟩:=hv _ hi _ v hg.symm
  rw[e] at hx
  exact⟨x,hx,hr⟩
theorem bc.DR [Env] {ids:Nat→Prop} {bF:Ren} {σ₀:St} {eR:World} (h:bc ids bF σ₀ eR ρ σ w) {b n esz:Nat} {f:Nat→V} {p:Bool} (hb:σ.heap.get b=some (.row n f esz p))
  {σ':St} (IY:∀b',σ'.heap.get b'=if b'=b then some (.cells (n*esz) [] (an (ar (bY n f)) .leaf 0) p false) else σ.heap.get b') (hn:σ'.next=σ.next):bc ids bF σ₀ eR ρ σ' w:=by
 have hd:∀b' k,σ'.heap.get b'=some k→∃k',σ.heap.get b'=some k':=by
  intro b' k hk
  rw[IY] at hk
  by_cases e:b'=b
  ·subst e;exact⟨_,hb⟩
  ·rw[if_neg e] at hk;exact⟨_,hk⟩
 have kO:∀c,Wr ρ σ' c→Wr ρ σ c:=by
  rintro c ⟨b',k,l,h1,_,h3,h4⟩
  obtain⟨k',fG⟩:=hd b' k h1
  exact⟨b',k',l,fG,rfl,h3,h4⟩
 refine⟨⟨fun b' k hk=>?_,fun cP cQ k₁ k₂ cc lk h1 h2=>?_,fun b' bq=>h.r.fresh b' (by rw[←hn];exact bq),h.r.valid,fun c o x hx=>⟨(h.r.aL c o x hx).1,fun hw=>(h.r.aL c o x hx).2 (kO c hw)⟩,h.r.laid⟩,
  h.le,by rw[hn];exact h.next,h.iw,h.size,h.os,h.tape,h.output,h.aJ,fun c hc hw=>h.wr c hc (kO c hw),fun b' k hk=>?_,h.gq⟩
 ·rw[IY] at hk
  by_cases e:b'=b
  ·subst e
   rw[if_pos rfl] at hk
   cases hk
   obtain⟨l,hl,dq⟩:=h.r.cS _ _ hb
   refine⟨l,hl,?_⟩
   have hR:=@Q9 ρ w _ l n f esz p dq
   cases dq with
   | row hs hn hu hv hf hp=>
    refine .cells hs hn (fun i v hi=>?_) (fun _=>hf) hp
    rcases fM hi with ⟨_,_,h3⟩ | ⟨_,h2⟩
    ·exact hR h3
    ·unfold cellOf at h2
     split at h2
     ·rw[Trie.eG] at h2;simp [dz] at h2
     ·cases h2
  ·rw[if_neg e] at hk;exact h.r.cS b' k hk
 ·obtain⟨Vw,fG⟩:=hd _ _ h1
  obtain⟨Vx,A6⟩:=hd _ _ h2
  exact h.r.inj _ _ _ _ _ _ fG A6
 ·obtain⟨k',eA⟩:=hd _ _ hk
  exact h.iJ b' k' eA
theorem xe {n:Nat} {z:List V} {t:Trie V}:∀(vs:List V) (off:Nat),(∀i v,vs[i]? =some v→cellOf n z t (off+i)=some v)→cellsOf n z t vs.length off=some vs
 | [],off,_=>rfl
 | v::vs,off,h=>by
  show kc (cellOf n z t off) (cellsOf n z t vs.length (Nat.add off 1))=_
  rw[show cellOf n z t off=some v from h 0 v rfl,xe vs (Nat.add off 1) fun i u hu=>by
   have:=h (i+1) u (by simpa using hu)
   rwa [show off+(i+1)=Nat.add off 1+i by show off+(i+1)=off+1+i;omega] at this]
  rfl
theorem qB (vs:List V):cellsOf vs.length [] (an vs .leaf 0) vs.length 0=some vs:=
 xe vs 0 fun i v hi=>by
  have bz:=(List.getElem?_eq_some_iff.1 hi).1
  unfold cellOf
  rw[Nat.zero_add,show Nat.blt i vs.length=true by rw[Nat.blt_eq];exact bz]
  dsimp only
  rw[jH,if_pos ⟨Nat.zero_le _,by omega⟩,Nat.sub_zero,hi]
theorem n0 (n:Nat) (f g:Nat→V) (j:Nat):dU n f g j=if j<n then f j else g (j-n):=by
 unfold dU
 by_cases h:j<n
 ·rw[if_pos h,show Nat.blt j n=true by rw[Nat.blt_eq];exact h]
 ·rw[if_neg h]
  cases hb:Nat.blt j n with
  | false=>rfl
  | true=>rw[Nat.blt_eq] at hb;exact absurd hb h
theorem KW (n m:Nat) (f g:Nat→V):bY (n+m) (dU n f g)=bY n f++bY m g:=by
 apply List.ext_getElem?
 intro i
 by_cases hi:i<n
 ·rw[List.getElem?_append_left (by rw[aT];exact hi),c9 (by omega),c9 hi,n0,if_pos hi]
 ·rw[List.getElem?_append_right (by rw[aT];omega),aT]
  by_cases e:i<n+m
  ·rw[c9 e,n0,if_neg hi,c9 (by omega)]
  ·rw[List.getElem?_eq_none (by rw[aT];omega),List.getElem?_eq_none (by rw[aT];omega)]
theorem Dl {σ:St} {sz:Nat} {x:V} {m:Nat} {g:Nat→V} {new:List V} (h:oneOf σ sz x=some (m,g,new)):
  m≠0∧iB σ sz x=some (m,new)∧ar (bY m g)=new:=by
 unfold oneOf at h
 split at h
 ·split at h
  ·rename_i hn hc
   cases h
   have hn:=Nat.eq_of_beq_eq_true hn
   subst hn
   refine⟨by omega,?_,?_⟩
   ·show(σ.cells _ _ (1*sz)).map _=_
    rw[hc];rfl
   ·show app new []=new
    rw[gD,List.append_nil]
  ·cases h
 ·rename_i es esz ex
  split at h
  ·rename_i hb
   rw[Bool.and_eq_true] at hb
   cases h
   have h1:=Nat.eq_of_beq_eq_true hb.1
   have h2:=hb.2
   rw[Nat.blt_eq] at h2
   subst h1
   refine⟨by omega,?_,?_⟩
   ·show(if esz=esz then some (len es,ar es) else none)=_
    rw[if_pos rfl]
   ·congr 1
    apply List.ext_getElem?
    intro i
    by_cases hi:i<es.length
    ·rw[c9 (by rw[aZ];exact hi)];unfold kr;rw[dz,List.getElem?_eq_getElem hi]
    ·rw[List.getElem?_eq_none (by rw[aT,aZ];omega),List.getElem?_eq_none (by omega)]
  ·cases h
 ·cases h
theorem xf {σ kU:St} {b sz:Nat} {x:V} {m:Nat} {new:List V} (h:iB σ sz x=some (m,new)) (fu:∀b',b'≠b→kU.heap.get b'=σ.heap.get b') (hb:∃n f z p,σ.heap.get b=some (.row n f z p)):iB kU sz x=some (m,new):=by
 unfold iB at h⊢
 split at h
 ·exact h
 ·rename_i bx off n cap ex esz
  rw[Option.map_eq_some_iff] at h
  obtain⟨l,hl,he⟩:=h
  have:kU.cells bx off (n*sz)=σ.cells bx off (n*sz):=by
   unfold St.cells
   rw[fu bx fun e=>?_]
   subst e
   obtain⟨n',f,z,p,hb⟩:=hb
   unfold St.cells at hl
   rw[hb] at hl;cases hl
  rw[this,hl,Option.map_some]
  exact congrArg some he
 ·exact h
 ·exact h
 ·cases h
theorem GC [Env] {sz:Nat} {x:V} {m:Nat} {g:Nat→V} {new:List V} (h:oneOf σ sz x=some (m,g,new)) {x':Value} (hx:aq ρ x x') (hn:new.length=m*sz):∀i,i<m→(g i).cells.length=sz:=by
 unfold oneOf at h
 split at h
 ·split at h
  ·cases h
   intro i _
   show new.length=sz
   omega
  ·cases h
 ·rename_i es esz ex
  split at h
  ·rename_i hb
   rw[Bool.and_eq_true] at hb
   cases h
   have h1:=Nat.eq_of_beq_eq_true hb.1
   subst h1
   intro i hi
   rw[aZ] at hi
   unfold kr
   rw[dz,List.getElem?_eq_getElem hi]
   have:∀v∈es,v.cells.length=esz:=by
    cases hx with
    | bj hu=>exact hu
    | dM=>exact fun v hv=>by cases hv
    | dc=>exact fun v hv=>by cases hv
   exact this _ (List.getElem_mem hi)
  ·cases h
 ·cases h
theorem As [Env] (hr:R ρ σ w) (cn:ρ id=none) {tys:Array TypeId} {ty t t':TypeId} (ht:tys[0]? =some t) (eU:tys[1]? =some t') (nw:intType P t'=false) {b n esz:Nat} {v x:V} {σ':St}
  (h:mO P σ id t b n esz x=some (v,σ')) {s' x':Value} (hs:aq ρ (.own b n esz) s') (hx:aq ρ x x'):
  ∃ρ' v' w',(Builtin.append_ tys ty #[s',x']).run P w=.ok v' w'∧aq ρ' v v'∧bc (fun b=>b=id) ρ σ w ρ' σ' w':=by
 unfold mO at h
 split at h
 ·rename_i e Q8
  split at h
  ·rename_i sz c7 z ba ou hz
   split at h
   ·cases h
   ·rename_i iK
    rw[not_or,not_or,not_or] at iK
    obtain⟨c1,c2,c3,c4⟩:=iK
    rw[ne_eq,Decidable.not_not] at c4
    subst c4
    split at h
    ·rename_i m g new ft
     obtain⟨qz,iU,hfg⟩:=Dl ft
     unfold s7 at h
     split at h
     ·rename_i n' f esz p hb
      split at h
      ·rename_i hc
       obtain⟨rfl,rfl,_,dS,nv⟩:=hc
       cases h
       let cs:=ar (bY n' f)
       let kU:=σ.set b (.cells (n'*esz) [] (an cs .leaf 0) p false)
       have fu:∀b',kU.heap.get b'=if b'=b then some (.cells (n'*esz) [] (an cs .leaf 0) p false) else σ.heap.get b':=fun b'=>by
        show(σ.set b _).heap.get b'=_
        rw[l4,Trie.bN]
       have az:=bc.DR (σ':=kU) (bc.refl (ids:=fun b=>b=id) hr) hb fu (by show(σ.set b _).next=_;rw[rr])
       have hsl:aq ρ (.slice b 0 n' n' false esz) s':=by
        cases hs with
        | own hl hc hN=>exact .slice hl (fun h=>by cases h) (fun _=>⟨hc,.inl rfl⟩) hN (Nat.le_refl _)
       obtain⟨l,hl,dq⟩:=hr.cS _ _ hb
       have hu:∀i,i<n'→(f i).cells.length=esz:=by cases dq with | row hs hn hu=>exact hu
       have iT:cs.length=n'*esz:=by show(ar _).length=_;rw[cW (fW hu),aT]
       obtain⟨_,_,_,_,DQ⟩:=tu (P:=P) hr iU hx
       have aV:iC P kU id t (.slice b 0 n' n' false esz) x=some (grown (kU.kill b) id esz (n'+m) (app cs new) p):=by
        unfold iC
        rw[Q8]
        dsimp only
        rw[ba,ou,hz]
        dsimp only
        rw[if_neg (by rw[not_or,not_or];exact⟨c1,c2,c3⟩)]
        have h1:iB kU esz x=some (m,new):=xf iU (fun b' e=>by rw[fu,if_neg e]) ⟨_,_,_,_,hb⟩
        rw[h1]
        show gn kU id esz c7 m new (.slice b 0 n' n' false esz)=_
        unfold gn
        dsimp only
        rw[if_neg (by simp),if_neg qz,if_neg (by omega),if_pos dS]
        have h2:kU.cells b 0 (n'*esz)=some cs:=by
         unfold St.cells
         rw[fu,if_pos rfl]
         show cellsOf (n'*esz) [] (an cs .leaf 0) (n'*esz) 0=some cs
         rw[←iT]
         exact qB cs
        rw[h2]
        show nD kU id esz b false (n'+m) new cs=_
        unfold nD
        dsimp only
        have h3:ob kU b=some p:=by
         unfold ob
         rw[fu,if_pos rfl]
        rw[h3,nv]
       obtain⟨ρ',v',w',aH,hv,lq⟩:=gL az.r cn ht eU nw aV hsl hx
       refine⟨ρ',v',w',aH,ln (by omega) hv,az.trans ?_⟩
       have Q7:ar (bY (n'+m) (dU n' f g))=app cs new:=by
        rw[KW,wb,gD,hfg]
       have hug:∀i,i<m→(g i).cells.length=esz:=GC ft hx DQ
       have pf:∀i,i<n'+m→(dU n' f g i).cells.length=esz:=by
        intro i hi
        rw[n0]
        by_cases h:i<n'
        ·rw[if_pos h];exact hu i h
        ·rw[if_neg h];exact hug _ (by omega)
       refine lq.uT (b:=id) (n:=n'+m) (f:=dU n' f g) (esz:=esz) (z:=[]) (t:=an (app cs new) .leaf 0) (p:=p) (by show((kU.kill b).new id _).heap.get id=_;rw[fr,Trie.bN,if_pos rfl]) pf (fun i hi k v hk=>?_) (fun b'=>?_) (by show((σ.kill b).new id _).next=((kU.kill b).new id _).next;rw[kt,kt,ti,ti];show max σ.next (id+1)=max (σ.set b _).next (id+1);rw[rr])
       ·have Ja:k<esz:=by rw[←pf i hi];exact(List.getElem?_eq_some_iff.1 hk).1
        have bz:i*esz+k<(n'+m)*esz:=by have:=kv hi (Nat.succ_le_of_lt Ja);omega
        unfold cellOf
        have hbb:Nat.blt (i*esz+k) ((n'+m)*esz)=true:=by rw[Nat.blt_eq];exact bz
        rw[hbb]
        dsimp only
        rw[jH,←Q7,if_pos ⟨Nat.zero_le _,by rw[cW (fW pf),aT];omega⟩,Nat.sub_zero,fO (fW pf) (c9 hi) Ja,hk]
       ·show((σ.kill b).new id _).heap.get b'=if b'=id then _ else((kU.kill b).new id _).heap.get b'
        rw[fr,fr,Trie.bN,Trie.bN,kN,kN,Trie.bN,Trie.bN]
        by_cases e:b'=id
        ·rw[if_pos e,if_pos e]
        ·rw[if_neg e,if_neg e,if_neg e]
         by_cases e2:b'=b
         ·rw[if_pos e2,if_pos e2]
         ·rw[if_neg e2,if_neg e2,fu,if_neg e2]
      ·cases h
     ·cases h
    ·cases h
  ·cases h
 ·cases h
theorem Dm [Env] (hr:R ρ σ w) (cn:ρ id=none) {tys:Array TypeId} {ty t t':TypeId} (ht:tys[0]? =some t) (eU:tys[1]? =some t') (nw:intType P t'=false) {s x v:V} {σ':St}
  (h:ja P σ id t s x=some (v,σ')) {s' x':Value} (hs:aq ρ s s') (hx:aq ρ x x'):
  ∃ρ' v' w',(Builtin.append_ tys ty #[s',x']).run P w=.ok v' w'∧aq ρ' v v'∧bc (fun b=>b=id) ρ σ w ρ' σ' w':=by
 unfold ja at h
 split at h
 ·exact Ar hr cn ht eU nw h hs hx
 ·split at h
  ·exact As hr cn ht eU nw h hs hx
  ·exact gL hr cn ht eU nw h hs hx
theorem vA [Env] {ρ:Ren} {z:V} {zv:Value} (h:aq ρ z zv) {sz n:Nat} (hs:z.cells.length=sz) (h0:sz≠0):au ρ (kK sz n z.cells) (Builtin.zeroCells zv.cells n).toList:=by
 have hc:=h.cells
 have ba:zv.cells.size=sz:=by rw[←hs,hc.length];simp
 unfold kK Builtin.zeroCells
 rw[ba]
 generalize n*sz=m
 rw[Array.toList_map,Array.toList_range]
 generalize List.range m=l
 induction l with
 | nil=>exact .nil
 | cons i l ih=>
  refine .cons ?_ ih
  have hi:i%sz<sz:=Nat.mod_lt _ (by omega)
  obtain⟨x,hx,hr⟩:=hc.get (i%sz) (show z.cells[i%sz]? =some _ from List.getElem?_eq_getElem (by omega))
  have e1:z.cells.getD (i%sz) cO=z.cells[i%sz]'(by omega):=by rw[List.getD_eq_getElem?_getD,List.getElem?_eq_getElem (by omega)];rfl
  have e2:zv.cells[i%sz]! =x:=by
   rw[getElem!_pos zv.cells (i%sz) (by omega)]
   rw[Array.getElem?_toList,Array.getElem?_eq_getElem (by omega)] at hx
   exact Option.some.inj hx
  show aq ρ (z.cells.getD (i%sz) cO) (zv.cells[i%sz]!)
  rw[e1,e2];exact hr
theorem Bc [Env] (hr:R ρ σ w) (cn:ρ id=none) {tys:Array TypeId} {ty t t':TypeId} (ht:tys[0]? =some t) (eU:tys[1]? =some t') {s x v:V} {σ':St}
  (h:j1 P σ id t t' s x=some (v,σ')) {s' x':Value} (hs:aq ρ s s') (hx:aq ρ x x'):
  ∃ρ' v' w',(Builtin.append_ tys ty #[s',x']).run P w=.ok v' w'∧aq ρ' v v'∧bc (fun b=>b=id) ρ σ w ρ' σ' w':=by
 unfold j1 at h
 split at h
 ·rename_i e kk hu hd
  split at h
  ·rename_i n
   split at h
   ·rename_i sz c7 z ba ou hz
    split at h
    ·cases h
    ·rename_i iK
     rw[not_or,not_or,not_or,not_or] at iK
     obtain⟨c1,c2,c3,c4,c5⟩:=iK
     rw[aZ,ne_eq,Decidable.not_not] at c3
     obtain⟨i,hi,rfl⟩:=ru ou
     obtain⟨zv,gy,pd⟩:=gI (P:=P) hz ρ
     have ny:zv.cells.size=sz:=by rw[←c3,pd.cells.length];simp
     obtain⟨N,rfl⟩:∃N:Nat,n=(N:Int):=⟨n.toNat,by omega⟩
     rw[Int.toNat_natCast] at h c5
     have dS:N*i.bytes≤1099511627776:=by omega
     have Bb:1≤i.bytes:=by omega
     have Vy:N≤1099511627776:=Nat.le_trans (Nat.le_mul_of_pos_right _ Bb) dS
     have Vz:Builtin.nextslicecap N 0*i.bytes≤2^48:=by
      have h1:=nextslicecap_le (need:=N) (cap:=0) (by omega)
      have h2:Builtin.nextslicecap N 0*i.bytes≤(2*N+192)*i.bytes:=Nat.mul_le_mul_right _ h1
      have h3:(2*N+192)*i.bytes=2*(N*i.bytes)+192*i.bytes:=by rw[Nat.add_mul,Nat.mul_assoc]
      have h4:i.bytes≤1099511627776:=Nat.le_trans (Nat.le_mul_of_pos_left _ (by omega)) dS
      omega
     cases hs;cases hx
     have VB:IntKind.i64.wrap (N:Int)=N:=by
      have h1:((N:Int)%(2^64:Int))=N:=Int.emod_eq_of_lt (by omega) (by omega)
      unfold IntKind.wrap
      simp only[IntKind.signed,IntKind.bits,h1,Bool.true_and]
      rw[if_neg (by simp;omega)]
     let q:Question:=.appendCap (0+N) 0 e
     have KT:0+N≤q.cut (w.tape w.drawn q):=by simp [q,Question.cut]
     have ft:au ρ (kK sz N z.cells) (Builtin.zeroCells zv.cells N).toList:=vA pd c3 c1
     have DQ:(kK sz N z.cells).length=N*sz:=by simp [kK]
     obtain⟨l,fV,hv⟩:=js (e:=e) hr cn (old:=[]) (old':=[]) .nil ft (need:=N) (by simpa using DQ) ny (q.cut (w.tape w.drawn q)) (by simpa using KT) true
     have hh:some (grown σ id sz N (kK sz N z.cells) true)=some (v,σ'):=h
     cases hh
     refine⟨_,_,_,?_,hv,fV⟩
     have jT:(#[Value.slice none 0 0,Value.int .i64 (N:Int)]:Array Value)[0]? =some (Value.slice none 0 0):=rfl
     have zB:(#[Value.slice none 0 0,Value.int .i64 (N:Int)]:Array Value)[1]? =some (Value.int .i64 (N:Int)):=rfl
     have Ba:¬((N:Int)<0):=by omega
     have I7:¬((N:Int)*(i.bytes:Int)>2^48):=by
      have:(N:Int)*(i.bytes:Int)=((N*i.bytes:Nat):Int):=by simp
      rw[this];omega
     have wm:¬(0+N≤0):=by omega
     have YI:¬(((0+N:Nat):Int)>IntKind.i64.max∧(True∨i.bytes=0)):=by rw[OW];omega
     have VC:¬(Builtin.nextslicecap (0+N) 0*i.bytes>2^48):=by rw[Nat.zero_add];omega
     have hnz:¬(N*sz=0):=by
      intro h0
      rcases Nat.mul_eq_zero.1 h0 with h0 | h0<;>omega
     have qA:q.forced=false:=rfl
     simp only[Builtin.append_,ht,eU,jT,zB,Sem.run_bind,run_underlying hu,run_underlying hd,Result.andThen_ok,br ba,Sem.run_pure,if_true,asInt,asIntOf,VB,if_neg Ba,run_typeInfo hi,if_neg I7,Int.toNat_natCast]
     rw[if_neg wm]
     simp only[Sem.run_bind,run_typeInfo hi,Result.andThen_ok,if_neg YI,if_neg VC,run_choose,q,qA,Bool.false_eq_true,if_false,run_askRoom,Bool.not_true,if_neg hnz,gy,Sem.run_pure,Builtin.firstCells]
     simp only[Nat.zero_add,Array.toArray_toList,Array.empty_append] at *
     simp
     rfl
   ·cases h
  ·cases h
 ·cases h
end
end Go.Ev
