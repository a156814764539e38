/- Proved: parts of the way: OpsC. -/
import Derived.Test.YtbajncpfmemdgaaGreatDoorEvQ03
set_option linter.unusedVariables false
set_option linter.unusedSimpArgs false
namespace Go.Ev
open Go
section
variable {P:Program} {ρ:Ren} {σ:St} {w:World} {id:Nat} {p:V×St→Prop}
inductive OV [Env] (ρ:Ren):Option V→Option Value→Prop
 | none:OV ρ none none
 | some {v:V} {x:Value} (h:au ρ v x):OV ρ (some v) (some x)
theorem bO.iU [Env] {a:Act} {a':Go.Act} (h:bO ρ a a') {x:Option Operand} {v:Option V} (hv:iU a x=some v):OV ρ v (x.map a'.eval):=by
 cases x with
 | none=>cases hv;exact .none
 | some x=>
  have ov:(a.eval x).map some=some v:=hv
  rw[Option.map_eq_some_iff] at ov
  obtain⟨u,hu,rfl⟩:=ov
  exact .some (h.eval x hu)
theorem dO [Env] {hi y:Nat} {v:V} {n:Nat} (h:asNat 0 hi v=some n) {x:Value} (hx:au ρ v x) (hy:hi≤y) (code:BoundsCode) (w:World):
  (Instr.sliceBound x y code).run P w=.ok n w∧n≤hi:=by
 unfold asNat at h
 split at h
 ·split at h
  ·rename_i k i hc
   cases h;cases hx
   have h0:0≤i∧i≤(y:Int):=⟨by simpa using hc.1,by omega⟩
   refine⟨?_,by omega⟩
   simp only[Instr.sliceBound,asIntOf,Sem.run_bind,Sem.run_pure,Result.andThen_ok]
   rw[if_pos h0];rfl
  ·cases h
 ·cases h
theorem gz [Env] {n cap cap':Nat} (hc:cap≤cap') {lo hi mx:Option V} {l hh m:Nat} (h:bounds n cap lo hi mx=some (l,hh,m)) {uO eQ uP:Option Value} (h1:OV ρ lo uO) (h2:OV ρ hi eQ) (h3:OV ρ mx uP)
  (isS:Bool) (w:World):(Instr.sliceBounds isS n cap' uO eQ uP).run P w=.ok (l,hh,if mx.isSome then m else cap') w∧l≤hh∧m≤cap∧(mx.isSome=false→m=cap)∧(hi.isSome=true→hh≤m)∧(mx.isSome=true→hh≤m)∧(hi.isSome=false→hh=n):=by
 unfold bounds at h
 cases h3 with
 | none=>
  dsimp only at h
  cases h2 with
  | none=>
   dsimp only at h
   cases h1 with
   | none=>cases h;refine⟨by simp [Instr.sliceBounds],by omega,by omega,by simp,by simp,by simp,by simp⟩
   | some h1=>
    dsimp only at h
    split at h
    ·cases h
    ·rename_i l' hl
     cases h
     obtain⟨r1,b1⟩:=dO (P:=P) hl h1 (Nat.le_refl _) .sliceB w
     exact⟨by simp [Instr.sliceBounds,r1],b1,by omega,by simp,by simp,by simp,by simp⟩
  | some h2=>
   dsimp only at h
   split at h
   ·cases h
   ·rename_i h' MV
    have r2:=fun code=>(dO (P:=P) MV h2 hc code w).1
    have b2':=(dO (P:=P) MV h2 hc .sliceAlen w).2
    cases h1 with
    | none=>
     cases h
     refine⟨?_,by omega,by omega,by simp,by simpa using b2',by simp,by simp⟩
     simp [Instr.sliceBounds,r2]
    | some h1=>
     dsimp only at h
     split at h
     ·cases h
     ·rename_i l' hl
      cases h
      obtain⟨r1,b1⟩:=dO (P:=P) hl h1 (Nat.le_refl _) .sliceB w
      refine⟨?_,b1,by omega,by simp,by simpa using b2',by simp,by simp⟩
      simp [Instr.sliceBounds,r2,r1]
 | some h3=>
  dsimp only at h
  split at h
  ·cases h
  ·rename_i m' hm
   have r3:=fun code=>(dO (P:=P) hm h3 hc code w).1
   have b3:=(dO (P:=P) hm h3 hc .sliceAlen w).2
   cases h2 with
   | none=>dsimp only at h;cases h
   | some h2=>
    dsimp only at h
    split at h
    ·cases h
    ·rename_i h' MV
     have r2:=fun code=>(dO (P:=P) MV h2 (Nat.le_refl _) code w).1
     have b2:=(dO (P:=P) MV h2 (Nat.le_refl _) .sliceAlen w).2
     cases h1 with
     | none=>
      cases h
      refine⟨?_,by omega,b3,by simp,by simpa using b2,by simpa using b2,by simp⟩
      simp [Instr.sliceBounds,r3,r2]
     | some h1=>
      dsimp only at h
      split at h
      ·cases h
      ·rename_i l' hl
       cases h
       have r1:=fun code=>(dO (P:=P) hl h1 (Nat.le_refl _) code w).1
       have b1:=(dO (P:=P) hl h1 (Nat.le_refl _) .sliceAlen w).2
       refine⟨?_,b1,b3,by simp,by simpa using b2,by simpa using b2,by simp⟩
       simp [Instr.sliceBounds,r3,r2,r1]
theorem zI {es:List V} {esz:Nat} (h:∀v∈es,v.cells.length=esz) (n:Nat):aw (es.take n)=(aw es).take (n*esz):=by
 induction es generalizing n with
 | nil=>simp [aw]
 | cons v es ih=>cases n with
  | zero=>simp [aw]
  | succ n=>
   have hv:=h v List.mem_cons_self
   rw[List.take_succ_cons,ca,ca,ih (fun u hu=>h u (List.mem_cons_of_mem _ hu)),Nat.add_mul,Nat.one_mul,Nat.add_comm (n*esz),←hv,List.take_length_add_append]
theorem mS {es:List V} {esz:Nat} (h:∀v∈es,v.cells.length=esz) (n:Nat):aw (es.drop n)=(aw es).drop (n*esz):=by
 induction es generalizing n with
 | nil=>simp [aw]
 | cons v es ih=>cases n with
  | zero=>simp
  | succ n=>
   have hv:=h v List.mem_cons_self
   rw[List.drop_succ_cons,ca,ih (fun u hu=>h u (List.mem_cons_of_mem _ hu)),Nat.add_mul,Nat.one_mul,Nat.add_comm (n*esz),←hv,List.drop_length_add_append]
theorem au.part [Env] {es:List V} {esz c off l n M:Nat} {ex:Bool} {xs:List Value} (hu:∀v∈es,v.cells.length=esz) (hx:aB ρ (aw es) xs) (hi:∀k x,xs[k]? =some x→ρ.aW c (off+k)=some x)
  (hl:l+n≤es.length) (hM:n≤M) (he:ex=true→M=n) {o2:Nat} (ho:n=0∨o2=off+l*esz):au ρ (.br (cV (cR l es) n) esz ex) (.slice (some ⟨c,o2,none⟩) n M):=by
 rw[eG,ea]
 have hlen:((es.drop l).take n).length=n:=by simp;omega
 have oz:∀v∈es.drop l,v.cells.length=esz:=fun v hv=>hu v (List.mem_of_mem_drop hv)
 have key:au ρ (.br ((es.drop l).take n) esz ex) (.slice (some ⟨c,o2,none⟩) ((es.drop l).take n).length M):=by
  refine .br (xs:=(xs.drop (l*esz)).take (n*esz)) (fun v hv=>oz v (List.mem_of_mem_take hv)) ?_ (fun k x hk=>?_) (by omega) (fun h=>by rw[hlen];exact he h)
  ·rw[zI oz,mS hu]
   exact(hx.drop _).take _
  ·rw[List.getElem?_take] at hk
   split at hk
   ·rename_i fB
    rw[List.getElem?_drop] at hk
    rcases ho with h0 | h0
    ·subst h0;omega
    ·rw[h0,Nat.add_assoc];exact hi _ x hk
   ·cases hk
 rw[hlen] at key
 exact key
theorem ua [Env] {t e:TypeId} {es:List V} {esz:Nat} {ex:Bool} {v:V} {lo hi mx:Option V} (hu:P.underlying t=some (.slice e)) {sz l hh m:Nat} (bl:bQ P e=some sz) (hb:bounds (len es) (len es) lo hi mx=some (l,hh,m)) (bN:sz=esz)
  (hv:v=.br (cV (cR l es) (hh-l)) esz ((mx.isSome||(ex&&Nat.beq hh (len es)))&&Nat.beq hh m)) {x':Value} {uO eQ uP:Option Value} (hx:au ρ (.br es esz ex) x') (h1:OV ρ lo uO) (h2:OV ρ hi eQ) (h3:OV ρ mx uP)
  (w:World):∃v',(Instr.sliceAt t x' uO eQ uP).run P w=.ok v' w∧au ρ v v':=by
 subst bN hv
 rw[aO] at hb⊢
 cases hx with
 | br oz hx eQ hc he=>
  rename_i c off cap' xs
  obtain⟨hr,Da,GP,yo,rp,wV,qg⟩:=gz (P:=P) hc hb h1 h2 h3 true w
  obtain⟨M,hM⟩:∃M,M=(if mx.isSome then m else cap'):=⟨_,rfl⟩
  have hhm:hh≤m:=by
   cases oA:hi.isSome with
   | true=>exact rp oA
   | false=>
    cases kV:mx.isSome with
    | true=>exact wV kV
    | false=>rw[qg oA,yo kV];exact Nat.le_refl _
  have hmM:m≤M:=by rw[hM];split<;>omega
  have Db:m≤es.length:=GP
  obtain⟨k,rfl⟩:∃k,M=l+k:=⟨M-l,by omega⟩
  have e1:l+k-l=k:=by omega
  refine⟨.slice (some (if l+k=l then⟨c,off,none⟩ else⟨c,off+l*sz,none⟩)) (hh-l) (l+k-l),?_,?_⟩
  ·simp only[Instr.sliceAt,Sem.run_bind,run_underlying hu,Result.andThen_ok,Instr.slice,hr,bw bl,←hM,Sem.run_pure]
   split<;>simp [eA]
  ·rw[e1]
   have hex:((mx.isSome||(ex&&Nat.beq hh es.length))&&Nat.beq hh m)=true→k=hh-l:=by
    intro h
    rw[Bool.and_eq_true] at h
    have g1:=Nat.eq_of_beq_eq_true h.2
    cases kV:mx.isSome with
    | true=>rw[kV,if_pos rfl] at hM;omega
    | false=>
     rw[kV] at h hM
     simp only[Bool.false_or,Bool.and_eq_true,Bool.false_eq_true,if_false] at h hM
     have g2:=Nat.eq_of_beq_eq_true h.1.2
     have g3:=he h.1.1
     omega
   by_cases jA:l+k=l
   ·rw[if_pos jA]
    exact au.part oz hx eQ (by omega) (by omega) hex (.inl (by omega))
   ·rw[if_neg jA]
    exact au.part oz hx eQ (by omega) (by omega) hex (.inr rfl)
 | dS=>
  obtain⟨hr,hl,hm,_,rp,wV,qg⟩:=gz (P:=P) (Nat.le_refl _) hb h1 h2 h3 true w
  have MW:hh=0:=by
   cases hi with
   | none=>exact qg rfl
   | some _=>have:=rp rfl;simp at hm;omega
  have rq:(if mx.isSome then m else 0)=0:=by split<;>simp at hm<;>omega
  have Dc:l=0:=by omega
  refine⟨.slice none 0 0,?_,?_⟩
  ·subst Dc MW
   simp only[List.length_nil] at hr
   simp only[Instr.sliceAt,Sem.run_bind,run_underlying hu,Result.andThen_ok,Instr.slice,hr,rq,bw bl]
   simp
  ·rw[eG,ea]
   simp only[List.drop_nil,List.take_nil]
   exact .dS
 | du he=>
  rename_i cap' a
  obtain⟨hr,hl,hm,_,rp,wV,qg⟩:=gz (P:=P) (Nat.zero_le cap') hb h1 h2 h3 true w
  have MW:hh=0:=by
   cases hi with
   | none=>exact qg rfl
   | some _=>have:=rp rfl;simp at hm;omega
  have Dc:l=0:=by omega
  obtain⟨M,hM⟩:∃M,M=(if mx.isSome then m else cap'):=⟨_,rfl⟩
  refine⟨.slice (some a) 0 M,?_,?_⟩
  ·subst Dc MW
   simp only[List.length_nil] at hr
   simp only[Instr.sliceAt,Sem.run_bind,run_underlying hu,Result.andThen_ok,Instr.slice,hr,bw bl,←hM,Sem.run_pure]
   split<;>simp [Addr.add]
  ·rw[eG,ea]
   simp only[List.drop_nil,List.take_nil]
   refine .du fun h=>?_
   rw[Bool.and_eq_true] at h
   have rq:m=0:=by simp at hm;omega
   cases kV:mx.isSome with
   | true=>rw[kV,if_pos rfl] at hM;omega
   | false=>
    rw[kV] at h hM
    simp only[Bool.false_or,Bool.and_eq_true,Bool.false_eq_true,if_false] at h hM
    rw[hM];exact he h.1.1
theorem Cj [Env] {t:TypeId} {x v:V} {lo hi mx:Option V} (h:nL P t x lo hi mx=some v) {x':Value} {uO eQ uP:Option Value} (hx:au ρ x x') (h1:OV ρ lo uO) (h2:OV ρ hi eQ) (h3:OV ρ mx uP)
  (w:World):∃v',(Instr.sliceAt t x' uO eQ uP).run P w=.ok v' w∧au ρ v v':=by
 unfold nL at h
 split at h
 ·rename_i s hu
  split at h
  ·cases h
  ·rename_i hmx
   have:mx=none:=by cases mx<;>simp_all
   subst this
   cases h3
   split at h
   ·rename_i l hh m hb
    cases h;cases hx
    rw[aO] at hb
    obtain⟨hr,hl,hm,_,_⟩:=gz (P:=P) (Nat.le_refl _) hb h1 h2 .none false w
    refine⟨.string ⟨⟨cR l (cV s hh)⟩⟩,?_,.str _⟩
    simp only[Instr.sliceAt,Sem.run_bind,run_underlying hu,Result.andThen_ok,Instr.slice]
    rw[show(⟨⟨s⟩⟩:ByteArray).size=s.length from rfl]
    simp only[Option.isSome_none,Bool.false_eq_true,if_false,hr,Sem.run_bind,Result.andThen_ok,Sem.run_pure]
    rw[Lib.extract_eq,ea,eG,List.drop_take]
   ·cases h
 ·rename_i e hu
  split at h
  ·rename_i sz r bl hb
   cases h;cases hx
   obtain⟨l,hh,m⟩:=r
   obtain⟨hr,hl,hm,_,rp,wV,qg⟩:=gz (P:=P) (Nat.le_refl _) hb h1 h2 h3 true w
   have MW:hh=0:=by
    cases hi with
    | none=>exact qg rfl
    | some _=>have:=rp rfl;omega
   have rq:(if mx.isSome then m else 0)=0:=by split<;>omega
   have Dc:l=0:=by omega
   refine⟨.slice none 0 0,?_,.aj⟩
   subst Dc MW
   simp only[Instr.sliceAt,Sem.run_bind,run_underlying hu,Result.andThen_ok,Instr.slice,hr,rq,bw bl]
   simp
  ·cases h
 ·rename_i e b off n cap ex esz hu
  split at h
  ·rename_i sz l hh m bl hb
   split at h
   ·cases h
   ·rename_i bN
    have bN:sz=esz:=by simpa using bN
    subst bN
    split at h
    ·rename_i jq
     cases h
     cases hx with
     | slice hl hex cW hN hn=>
      rename_i cy off' cap'
      have po:cap≤cap':=by
       cases ex with
       | true=>exact Nat.le_of_eq (hex rfl).1.symm
       | false=>exact(cW rfl).1
      obtain⟨hr,Da,GP,yo,rp,wV,qg⟩:=gz (P:=P) po hb h1 h2 h3 true w
      obtain⟨M,hM⟩:∃M,M=(if mx.isSome then m else cap'):=⟨_,rfl⟩
      have ae3:M≤cap':=by rw[hM];split<;>omega
      have hhm:hh≤m:=by
       cases oA:hi.isSome with
       | true=>exact rp oA
       | false=>
        cases kV:mx.isSome with
        | true=>exact wV kV
        | false=>rw[qg oA,yo kV];assumption
      have hmM:m≤M:=by rw[hM];split<;>omega
      obtain⟨k,rfl⟩:∃k,M=l+k:=⟨M-l,by omega⟩
      have sA:(ex||mx.isSome)=true→off'=cy.o+off:=by
       intro he
       cases ex with
       | true=>exact(hex rfl).2
       | false=>
        rcases(cW rfl).2 with h' | ⟨_,h'⟩
        ·exact h'
        ·simp only[Bool.false_or] at he
         cases mx with
         | none=>cases he
         | some _=>simp [h'] at jq
      refine⟨.slice (some (if l+k=l then⟨cy.c,off',none⟩ else⟨cy.c,off'+l*sz,none⟩)) (hh-l) (l+k-l),?_,?_⟩
      ·simp only[Instr.sliceAt,Sem.run_bind,run_underlying hu,Result.andThen_ok,Instr.slice,hr,bw bl,←hM,Sem.run_pure]
       split<;>simp [eA]
      ·have e1:l+k-l=k:=by omega
       have hk:off'+(l+k)*sz≤cy.N:=Nat.le_trans (Nat.add_le_add_left (Nat.mul_le_mul_right sz ae3) off') hN
       rw[Nat.add_mul] at hk
       have goal:∀(o2 uQ:Nat),(o2=if l+k=l then off' else off'+l*sz)→(uQ=if ((ex||mx.isSome)&&m==l)=true then off else off+l*sz)→
         au ρ (.slice b uQ (hh-l) (m-l) (ex||mx.isSome) sz) (.slice (some ⟨cy.c,o2,none⟩) (hh-l) k):=by
        intro o2 uQ WH SA
        refine .slice hl (fun he=>?_) (fun he=>?_) ?_ (by omega)
        ·have hoe:=sA he
         have hmk:m=l+k:=by
          rw[hM]
          cases kV:mx.isSome with
          | true=>simp
          | false=>
           rw[kV,Bool.or_false] at he
           have:=(hex he).1
           simp [yo kV,this]
         refine⟨by omega,?_⟩
         subst hmk
         rw[WH,SA,he]
         by_cases jA:l+k=l
         ·rw[if_pos jA,if_pos (by simpa using jA)];exact hoe
         ·rw[if_neg jA,if_neg (by simpa using jA)];omega
        ·rw[Bool.or_eq_false_iff] at he
         have hmc:=yo he.2
         rw[he.2] at hM
         simp only[Bool.false_eq_true,if_false] at hM
         obtain⟨_,hw⟩:=cW he.1
         refine⟨by omega,?_⟩
         rw[SA,he.1,he.2]
         simp only[Bool.or_self,Bool.false_and,Bool.false_eq_true,if_false]
         by_cases jA:l+k=l
         ·exact .inr ⟨by omega,by omega⟩
         ·rcases hw with hw | hw
          ·rw[if_neg jA] at WH
           exact .inl (by omega)
          ·exact .inr ⟨by omega,by omega⟩
        ·rw[WH];split<;>omega
       rw[e1]
       have Ct:=goal _ _ rfl rfl
       by_cases jA:l+k=l
       ·rw[if_pos jA];rw[if_pos jA] at Ct;exact Ct
       ·rw[if_neg jA];rw[if_neg jA] at Ct;exact Ct
    ·cases h
  ·cases h
 ·rename_i e es esz ex hu
  split at h
  ·rename_i sz l hh m bl hb
   split at h
   ·cases h
   ·rename_i bN
    exact ua hu bl hb (by simpa using bN) (Option.some.inj h).symm hx h1 h2 h3 w
  ·cases h
 ·rename_i e n f esz ex nn hu
  split at h
  ·rename_i sz l hh m bl hb
   split at h
   ·cases h
   ·rename_i bN
    cases hx with
    | arr _ hx=>
     have bG:bounds (len (cj n f)) (len (cj n f)) lo hi mx=some (l,hh,m):=by rw[aO,aY];exact hb
     obtain⟨v',aP,aT⟩:=ua hu bl bG (by simpa using bN) rfl hx h1 h2 h3 w
     refine⟨v',aP,?_⟩
     have:=(Option.some.inj h).symm
     subst this
     refine .arr (fun h=>by cases h) ?_
     rw[aO,aY] at aT
     have qg:hh≤n:=by
      obtain⟨_,_,GP,_⟩:=gz (P:=P) (Nat.le_refl n) hb h1 h2 h3 true w
      obtain⟨_,Da,_,yo,rp,wV,qg⟩:=gz (P:=P) (Nat.le_refl n) hb h1 h2 h3 true w
      cases oA:hi.isSome with
      | true=>have:=rp oA;omega
      | false=>
       cases kV:mx.isSome with
       | true=>have:=wV kV;omega
       | false=>rw[qg oA];exact Nat.le_refl _
     have e:cV (cR l (cj n f)) (hh-l)=cj (hh-l) fun i=>f (Nat.add l i):=by
      rw[eG,ea]
      apply List.ext_getElem?
      intro i
      rw[List.getElem?_take]
      split
      ·rename_i eQ
       rw[List.getElem?_drop,dt (by omega),dt eQ];rfl
      ·rename_i eQ
       rw[List.getElem?_eq_none (by rw[aY];omega)]
     rw[e] at aT
     exact aT
  ·cases h
 ·cases h
theorem zJ [Env] (hr:R ρ σ w) {t e:TypeId} {n:Nat} {x v:V} {lo hi mx:Option V} (hu:P.underlying t=some (.array n e)) (h:kv P σ n e lo hi mx x=some v) {x':Value} {uO eQ uP:Option Value} (hx:au ρ x x')
  (h1:OV ρ lo uO) (h2:OV ρ hi eQ) (h3:OV ρ mx uP):∃v',(Instr.sliceAt t x' uO eQ uP).run P w=.ok v' w∧au ρ v v':=by
 unfold kv at h
 split at h
 ·rename_i b off
  cases hx with
  | ptr hl=>
   rename_i cy
   split at h
   ·rename_i sz l hh m N z t' p ro bl hb hk
    split at h
    ·rename_i hN
     cases h
     obtain⟨aP,Da,GP,yo,rp,wV,qg⟩:=gz (P:=P) (Nat.le_refl _) hb h1 h2 h3 false w
     have hM:(if mx.isSome then m else n)=m:=by
      cases kV:mx.isSome with
      | true=>simp
      | false=>simp [yo kV]
     rw[hM] at aP
     have hN':off+n*sz≤N:=Nat.le_of_ble_eq_true hN
     have hhm:hh≤m:=by
      cases oA:hi.isSome with
      | true=>exact rp oA
      | false=>
       cases kV:mx.isSome with
       | true=>exact wV kV
       | false=>rw[qg oA,yo kV];exact Nat.le_refl _
     have yp:=(hr.cells hk hl).2.1
     have WI:m*sz≤n*sz:=Nat.mul_le_mul_right sz GP
     refine⟨.slice (some (if m=l then⟨cy.c,cy.o+off,none⟩ else⟨cy.c,cy.o+off+l*sz,none⟩)) (hh-l) (m-l),?_,?_⟩
     ·simp only[Instr.sliceAt,Sem.run_bind,run_underlying hu,Result.andThen_ok,Instr.sureAddr,Sem.run_pure,aP,bw bl]
      split<;>simp [eA]
     ·have key:∀o2 uQ,o2=cy.o+uQ→uQ+(m-l)*sz≤N→au ρ (.slice b uQ (hh-l) (m-l) true sz) (.slice (some ⟨cy.c,o2,none⟩) (hh-l) (m-l)):=fun o2 uQ ho hle=>
       .slice hl (fun _=>⟨rfl,ho⟩) (fun h=>by cases h) (by omega) (by omega)
      by_cases Db:m=l
      ·rw[if_pos Db]
       have e1:Nat.beq m l=true:=by rw[Db];exact Nat.beq_refl l
       simp only[e1]
       exact key _ _ rfl (by rw[Db,Nat.sub_self,Nat.zero_mul];omega)
      ·rw[if_neg Db]
       have e1:Nat.beq m l=false:=by
        cases WJ:Nat.beq m l with
        | true=>exact absurd (Nat.eq_of_beq_eq_true WJ) Db
        | false=>rfl
       simp only[e1]
       refine key _ _ (Nat.add_assoc _ _ _) ?_
       show off+l*sz+(m-l)*sz≤N
       have:l*sz+(m-l)*sz≤m*sz:=by
        rw[←Nat.add_mul]
        exact Nat.mul_le_mul_right sz (by omega)
       omega
    ·cases h
   ·cases h
 ·cases h
theorem aB.bytes [Env]:∀(l:List UInt8),aB ρ (l.map fun c=>V.int .u8 c.toNat) (l.map fun c=>Value.int .u8 c.toNat)
 | []=>.nil
 | _::l=>.cons (.int _ _) (aB.bytes l)
theorem uR [Env] (hr:R ρ σ w) {sz n:Nat} {x:V} {new:List V} (h:jj σ sz x=some (n,new)) {x':Value} (hx:au ρ x x'):
  ∃fm:List Value,(Builtin.lenOf x').run P w=.ok n w∧(∀bq:World,bq.heap=w.heap→(Builtin.firstCells sz n x').run P bq=.ok ⟨fm⟩ bq)∧aB ρ new fm∧new.length=n*sz:=by
 unfold jj at h
 split at h
 ·cases h;cases hx
  exact⟨[],by simp [Builtin.lenOf],fun _ _=>by simp [Builtin.firstCells],.nil,by simp⟩
 ·rw[Option.map_eq_some_iff] at h
  obtain⟨vs,ij,he⟩:=h
  cases he
  cases hx with
  | slice hl hex cW hN hn=>
   rename_i b off cap ex esz cy off' cap'
   by_cases hz:off'=cy.o+off
   ·subst hz
    obtain⟨xs,aP,aT,hlen⟩:=hr.loadCells (P:=P) ij hl
    exact⟨xs,by simp [Builtin.lenOf],fun bq hw=>by simpa [Builtin.firstCells] using aP bq hw,aT,by rw[aT.length,hlen]⟩
   ·have hzero:n=0:=by
     cases ex with
     | true=>exact absurd (hex rfl).2 hz
     | false=>rcases(cW rfl).2 with h' | h'
              ·exact absurd h' hz
              ·exact h'.1
    subst hzero
    rw[Nat.zero_mul] at ij
    unfold St.cells at ij
    split at ij
    ·have h':some ([]:List V)=some _:=ij
     cases h'
     exact⟨[],by simp [Builtin.lenOf],fun _ _=>by simp [Builtin.firstCells,loadCells,loadCellsFrom],.nil,by simp⟩
    ·cases ij
 ·split at h
  ·rename_i hs
   cases h;cases hx
   subst hs
   rw[OO,aO]
   refine⟨_,by simp [Builtin.lenOf];rfl,fun _ _=>?_,aB.bytes _,by simp⟩
   rename_i l _ _
   have:((⟨⟨l⟩⟩:ByteArray).extract 0 l.length)=⟨⟨l⟩⟩:=by rw[Lib.extract_eq];simp
   simp only[Builtin.firstCells,this,Sem.run_pure]
   simp
  ·cases h
 ·split at h
  ·rename_i hs
   cases h
   subst hs
   rw[aO]
   cases hx with
   | br hu hx hi hc he=>
    rename_i c off cap xs
    have hl:(aw _).length=_:=c8 hu
    have Bv:=hx.length
    refine⟨xs,by simp [Builtin.lenOf],fun bq hw=>?_,hx,hl⟩
    have:=hr.v7 (P:=P) hi bq hw
    rw[←Bv,hl] at this
    simpa [Builtin.firstCells] using this
   | dS=>exact⟨[],by simp [Builtin.lenOf],fun _ _=>by simp [Builtin.firstCells],.nil,by simp [aw]⟩
   | du he=>exact⟨[],by simp [Builtin.lenOf],fun _ _=>by simp [Builtin.firstCells,loadCells,loadCellsFrom],.nil,by simp [aw]⟩
  ·cases h
 ·cases h
theorem nextslicecap_le {need cap:Nat} (h:cap<need):Builtin.nextslicecap need cap≤2*need+192:=by
 have g:∀(k c:Nat),c≤2*need+192→Builtin.growBy need k c≤2*need+192:=by
  intro k
  induction k with
  | zero=>intro c hc;exact hc
  | succ k ih=>
   intro c hc
   unfold Builtin.growBy
   split
   ·exact hc
   ·exact ih _ (by omega)
 unfold Builtin.nextslicecap
 split
 ·omega
 ·split
  ·omega
  ·exact g 4 cap (by omega)
theorem Ub:IntKind.i64.max=9223372036854775807:=by decide
theorem j5 [Env] (hr:R ρ σ w) (cx:ρ id=none) {e:TypeId} {sz need:Nat} {old new:List V} {old' fm:List Value} (hold:aB ρ old old') (gn:aB ρ new fm)
  (hlen:old.length+new.length=need*sz) {zc:Array Value} (hz:zc.size=sz) (dC:Nat) (jB:need≤dC) (pl:Bool):
  let w':World:={w with drawn:=w.drawn+1}
  let wW:World:={w' with heap:=w'.heap.push (.cells ((⟨old'⟩:Array Value)++(⟨fm⟩:Array Value)++Builtin.zeroCells zc (dC-need)) e (0,0))}
  ∃l,bn (fun b=>b=id) ρ σ w (kR ρ id l) (grown σ id sz need (app old new) pl).2 wW∧au (kR ρ id l) (grown σ id sz need (app old new) pl).1 (.slice (some ⟨w.heap.size,0,none⟩) need dC):=by
 intro w' wW
 have hzl:(Builtin.zeroCells zc (dC-need)).size=(dC-need)*sz:=by simp [Builtin.zeroCells,hz]
 have WK:=hold.length
 have Dd:=gn.length
 have hN:((⟨old'⟩:Array Value)++(⟨fm⟩:Array Value)++Builtin.zeroCells zc (dC-need)).size=dC*sz:=by
  simp only[Array.size_append,hzl,List.size_toArray]
  rw[←WK,←Dd,hlen,←Nat.add_mul]
  congr 1;omega
 have kU:wW.heap[w.heap.size]? =some (.cells ((⟨old'⟩:Array Value)++(⟨fm⟩:Array Value)++Builtin.zeroCells zc (dC-need)) e (0,0)):=by
  show(w.heap.push _)[w.heap.size]? =_
  simp
 refine⟨⟨w.heap.size,0,dC*sz⟩,?_,?_⟩
 ·refine bn.alloc hr cx (w':=wW) rfl rfl rfl rfl (.cells ⟨e,?_⟩ ?_ (fun i v hi=>?_) (fun _ i _=>?_) (fun _ i=>?_))
  ·unfold World.shape?
   rw[kU]
   simp only[hN]
  ·simpa using Nat.mul_le_mul_right sz jB
  ·rw[iS] at hi
   rcases gl hi with ⟨_,h2,h3⟩ | ⟨_,h2⟩
   ·obtain⟨x,cX,aT⟩:=(hold.append gn).get _ h3
    refine⟨x,?_,aT.mono (j3 ρ _ cx)⟩
    have bI:i<(old'++fm).length:=by rw[List.length_append,←WK,←Dd];simpa using h2
    have ae4:(old'++fm)[i]? =some x:=by simpa using cX
    simp only[World.cell?,kU,Nat.zero_add]
    simp only[Option.isSome_none,Bool.false_eq_true,if_false]
    rw[Array.getElem?_append_left (by simpa using bI)]
    simpa using ae4
   ·unfold cellOf at h2
    split at h2
    ·rw[Trie.eU] at h2;simp [dG] at h2
    ·cases h2
  ·simp [World.frozen?,kU]
  ·simp [World.frozen?,kU]
 ·exact .slice (l:=⟨w.heap.size,0,dC*sz⟩) (j2 _ _ _) (by simp) (fun _=>⟨jB,.inl rfl⟩) (by simp) (Nat.le_refl _)
theorem zK [Env] (hr:R ρ σ w) {b off n cap k sz:Nat} {ex:Bool} {old:List V} (h:σ.cells b off (n*sz)=some old) {cy:Loc} {off' cap':Nat} (hl:ρ b=some cy)
  (hex:ex=true→cap'=cap∧off'=cy.o+off) (cW:ex=false→cap≤cap'∧(off'=cy.o+off∨(n=0∧cap=0))):
  ∃old':List Value,(∀bq:World,bq.heap=w.heap→(Builtin.firstCells sz n (.slice (some ⟨cy.c,off',none⟩) n k)).run P bq=.ok ⟨old'⟩ bq)∧aB ρ old old'∧old.length=n*sz:=by
 by_cases hz:off'=cy.o+off
 ·subst hz
  obtain⟨xs,aP,aT,hlen⟩:=hr.loadCells (P:=P) h hl
  exact⟨xs,fun bq hw=>by simpa [Builtin.firstCells] using aP bq hw,aT,by rw[aT.length,hlen]⟩
 ·have hzero:n=0:=by
   cases ex with
   | true=>exact absurd (hex rfl).2 hz
   | false=>
    rcases(cW rfl).2 with h' | h'
    ·exact absurd h' hz
    ·exact h'.1
  subst hzero
  rw[Nat.zero_mul] at h
  unfold St.cells at h
  split at h
  ·have h':some ([]:List V)=some _:=h
   cases h'
   exact⟨[],fun _ _=>by simp [Builtin.firstCells,loadCells,loadCellsFrom],.nil,by simp⟩
  ·cases h
theorem iW [Env] {tys:Array TypeId} {ty t t' e:TypeId} {i:TypeInfo} {d:TypeDesc} {s x:Value} {base:Option Addr} {eB iH n sz:Nat} {old new:List Value} {zv:Value}
  (ht:tys[0]? =some t) (eZ:tys[1]? =some t') (hu:P.underlying t=some (.slice e)) (hd:P.underlying t'=some d) (je:∀k,d≠.int k) (bl:bQ P e=some sz) (hi:P.info? e=some i)
  (hs:s=.slice base eB iH) (hlen:(Builtin.lenOf x).run P w=.ok n w) (hz:∀w,(zeroValue e).run P w=.ok zv w) (nU:¬eB+n≤iH) (pq:i.bytes≠0) (dY:(eB+n)*i.bytes≤1099511627776)
  (hold:∀bq:World,bq.heap=w.heap→(Builtin.firstCells sz eB s).run P bq=.ok ⟨old⟩ bq) (gn:∀bq:World,bq.heap=w.heap→(Builtin.firstCells sz n x).run P bq=.ok ⟨new⟩ bq):
  ∃dC,eB+n≤dC∧(Builtin.append_ tys ty #[s,x]).run P w=
   .ok (.slice (some ⟨w.heap.size,0,none⟩) (eB+n) dC) {w with drawn:=w.drawn+1,heap:=w.heap.push (.cells ((⟨old⟩:Array Value)++(⟨new⟩:Array Value)++Builtin.zeroCells zv.cells (dC-(eB+n))) e (0,0))}:=by
 have zL:1≤i.bytes:=by omega
 have abJ:eB+n≤1099511627776:=Nat.le_trans (Nat.le_mul_of_pos_right _ zL) dY
 have abK:Builtin.nextslicecap (eB+n) iH*i.bytes≤2^48:=by
  have h1:=nextslicecap_le (need:=eB+n) (cap:=iH) (by omega)
  have h2:Builtin.nextslicecap (eB+n) iH*i.bytes≤(2*(eB+n)+192)*i.bytes:=Nat.mul_le_mul_right _ h1
  have h3:(2*(eB+n)+192)*i.bytes=2*((eB+n)*i.bytes)+192*i.bytes:=by rw[Nat.add_mul,Nat.mul_assoc]
  have h4:i.bytes≤1099511627776:=Nat.le_trans (Nat.le_mul_of_pos_left _ (by omega)) dY
  omega
 have OT:eB+n≤(Question.appendCap (eB+n) iH e).cut (w.tape w.drawn (.appendCap (eB+n) iH e)):=by simp [Question.cut]
 refine⟨(Question.appendCap (eB+n) iH e).cut (w.tape w.drawn (.appendCap (eB+n) iH e)),OT,?_⟩
 have hm:(match d with | .int _=>true | _=>false)=false:=by cases d<;>first | rfl | exact absurd rfl (je _)
 subst hs
 have ho:=hold {w with drawn:=w.drawn+1} rfl
 have hn:=gn {w with drawn:=w.drawn+1} rfl
 have kH:(#[Value.slice base eB iH,x]:Array Value)[0]? =some (Value.slice base eB iH):=rfl
 have Bu:(#[Value.slice base eB iH,x]:Array Value)[1]? =some x:=rfl
 simp only[Builtin.append_,ht,eZ,kH,Bu,Sem.run_bind,run_underlying hu,run_underlying hd,Result.andThen_ok,bw bl,Sem.run_pure,Bool.false_eq_true,if_false,hlen]
 have WM:¬(((eB+n:Nat):Int)>IntKind.i64.max∧(False∨i.bytes=0)):=by simp [pq]
 have WN:¬(Builtin.nextslicecap (eB+n) iH*i.bytes>2^48):=by omega
 have rr:(Question.appendCap (eB+n) iH e).forced=false:=rfl
 rw[if_neg nU]
 simp only[Sem.run_bind,run_typeInfo hi,Result.andThen_ok,if_neg WM,if_neg WN,run_choose,rr,Bool.false_eq_true,if_false,run_askRoom,ho,hn,Bool.not_false,if_true,hz,Sem.run_pure]
 rfl
theorem gL [Env] {tys:Array TypeId} {ty t t' e:TypeId} {d:TypeDesc} {x:Value} {base:Option Addr} {eB iH n sz:Nat} {new:List Value} {w':World}
  (ht:tys[0]? =some t) (eZ:tys[1]? =some t') (hu:P.underlying t=some (.slice e)) (hd:P.underlying t'=some d) (je:∀k,d≠.int k) (bl:bQ P e=some sz)
  (hlen:(Builtin.lenOf x).run P w=.ok n w) (xB:eB+n≤iH) (gn:(Builtin.firstCells sz n x).run P w=.ok ⟨new⟩ w)
  (aH:match base with | some a=>(storeCells (a.add (eB*sz)) new).run P w=.ok () w' | none=>w'=w):
  (Builtin.append_ tys ty #[.slice base eB iH,x]).run P w=.ok (.slice base (eB+n) iH) w':=by
 have hm:(match d with | .int _=>true | _=>false)=false:=by cases d<;>first | rfl | exact absurd rfl (je _)
 have kH:(#[Value.slice base eB iH,x]:Array Value)[0]? =some (Value.slice base eB iH):=rfl
 have Bu:(#[Value.slice base eB iH,x]:Array Value)[1]? =some x:=rfl
 simp only[Builtin.append_,ht,eZ,kH,Bu,Sem.run_bind,run_underlying hu,run_underlying hd,Result.andThen_ok,bw bl,Sem.run_pure,Bool.false_eq_true,if_false,hlen]
 rw[if_pos xB]
 cases base with
 | none=>
  subst aH
  simp only[Sem.run_bind,Bool.not_false,if_true,gn,Result.andThen_ok,Sem.run_pure]
 | some a=>
  dsimp only at aH
  simp only[Sem.run_bind,Bool.not_false,if_true,gn,Result.andThen_ok,Sem.run_pure,aH]
theorem Gk {t:TypeId} (h:intType P t=false):∃d,P.underlying t=some d∧∀k,d≠.int k:=by
 unfold intType at h
 split at h
 ·cases h
 ·rename_i d hn hu
  exact⟨d,hu,fun k e=>hn k e⟩
 ·cases h
theorem Gl [Env] (hr:R ρ σ w) (cx:ρ id=none) {b off m cap' n sz:Nat} {old new:List V} {fm:List Value} {pl:Bool} {cy:Loc} {off':Nat} (hold:σ.cells b off (m*sz)=some old) (hl:ρ b=some cy)
  (hz:off'=cy.o+off∨m=0) (ow:pd σ b=some pl) (hN:off'+cap'*sz≤cy.N) (xB:m+n≤cap') (jr:aB ρ new fm) (ou:new.all V.scalar=true) (nA:new.length=n*sz):
  ∃w',(storeCells ((⟨cy.c,off',none⟩:Addr).add (m*sz)) fm).run P w=.ok () w'∧
   bn (fun b=>b=id) ρ σ w (kR ρ id ⟨cy.c,off',cy.N⟩) (grown (σ.kill b) id sz (m+n) (app old new) pl).2 w':=by
 unfold pd at ow
 split at ow
 ·rename_i nb zb tb pb hb
  cases ow
  obtain⟨⟨ty,hs⟩,hnb,hv,hf,hp⟩:=hr.cells hb hl
  have WI:(m+n)*sz≤cap'*sz:=Nat.mul_le_mul_right sz xB
  have OU:(m+n)*sz=m*sz+n*sz:=Nat.add_mul ..
  have hlen:=jr.length
  have jP:∀j,j<fm.length→(w.cell? ⟨cy.c,off'+m*sz+j,none⟩).isSome=true:=fun j hj=>ll hs (by omega)
  have Uc:old.length=m*sz∧∀i v,old[i]? =some v→∃x,w.cell? ⟨cy.c,off'+i,none⟩=some x∧au ρ v x:=by
   unfold St.cells at hold
   rw[hb] at hold
   obtain⟨h1,h2⟩:=gJ _ _ hold
   refine⟨h1,fun i v hi=>?_⟩
   obtain⟨x,hx,aT⟩:=hv _ _ (h2 i v hi)
   refine⟨x,?_,aT⟩
   rcases hz with hz | hz
   ·rw[hz,Nat.add_assoc];exact hx
   ·subst hz
    rw[Nat.zero_mul] at h1
    have:old=[]:=List.eq_nil_of_length_eq_zero h1
    subst this
    simp at hi
  obtain⟨WK,hoc⟩:=Uc
  refine⟨w.setCells cy.c (off'+m*sz) fm,?_,?_⟩
  ·rw[eA]
   have:=run_storeCells_cells (P:=P) cy.c (off'+m*sz) fm 0 w (by simpa using jP) (fun j hj=>by simpa using hf rfl (off'+m*sz+j) (by omega)) (jr.mP ou)
   simpa using this
  ·obtain⟨r1,r2,r3⟩:=lg cy.c fm (off'+m*sz) w
   refine bn.abG (l:=⟨cy.c,off',cy.N⟩) hr cx hb rfl hl rfl (lb _ _ _ _) (fun c hc=>gZ _ _ _ _ _ hc) r1 r2 r3 ?_
   refine .cells ⟨ty,by rw[kz];exact hs⟩ (by dsimp only;omega) (fun i v hi=>?_) (fun ie i hi=>by rw[World.frozen?_setCells];exact hf rfl i hi) (fun rl i=>by rw[World.frozen?_setCells];exact hp rl i)
   rw[iS] at hi
   rcases gl hi with ⟨_,h2,h3⟩ | ⟨_,h2⟩
   ·rw[Nat.sub_zero] at h3
    by_cases hio:i<old.length
    ·rw[List.getElem?_append_left hio] at h3
     obtain⟨x,hx,aT⟩:=hoc i v h3
     refine⟨x,?_,aT.mono (j3 ρ _ cx)⟩
     rw[World.cell?_setCells_out cy.c fm (off'+m*sz) w _ (fun _ _=>by dsimp only;omega)]
     exact hx
    ·rw[List.getElem?_append_right (by omega)] at h3
     obtain⟨x,hx,aT⟩:=jr.get _ h3
     refine⟨x,?_,aT.mono (j3 ρ _ cx)⟩
     have hj:i-old.length<fm.length:=by
      rw[←hlen]
      exact(List.getElem?_eq_some_iff.1 h3).1
     have:=World.cell?_setCells_in cy.c fm (off'+m*sz) w jP (i-old.length) hj
     rw[show off'+m*sz+(i-old.length)=off'+i by omega] at this
     rw[this]
     rw[List.getElem?_eq_getElem hj] at hx
     exact hx
   ·unfold cellOf at h2
    split at h2
    ·rw[Trie.eU] at h2;simp [dG] at h2
    ·cases h2
 ·cases ow
theorem il [Env] (hr:R ρ σ w) (cx:ρ id=none) {tys:Array TypeId} {ty t t':TypeId} (ht:tys[0]? =some t) (eZ:tys[1]? =some t') (oB:intType P t'=false) {s x v:V} {σ':St}
  (h:jk P σ id t s x=some (v,σ')) {s' x':Value} (hs:au ρ s s') (hx:au ρ x x'):
  ∃ρ' v' w',(Builtin.append_ tys ty #[s',x']).run P w=.ok v' w'∧au ρ' v v'∧bn (fun b=>b=id) ρ σ w ρ' σ' w':=by
 obtain⟨d,hd,je⟩:=Gk oB
 unfold jk at h
 split at h
 ·rename_i e hu
  split at h
  ·rename_i sz dp z bl pq hz
   split at h
   ·cases h
   ·rename_i jq
    rw[not_or,not_or] at jq
    obtain⟨c1,c2,c3⟩:=jq
    rw[aO,ne_eq,Decidable.not_not] at c3
    obtain⟨i,hi,rfl⟩:=sw pq
    obtain⟨zv,hJ,qf⟩:=ig (P:=P) hz ρ
    have oC:zv.cells.size=sz:=by rw[←c3,qf.cells.length];simp
    split at h
    ·cases h
    ·rename_i n new gn
     obtain⟨fm,hlen,im,jr,nA⟩:=uR (P:=P) hr gn hx
     unfold gT at h
     split at h
     ·split at h
      ·rename_i jQ
       cases h;cases hs
       subst jQ
       exact⟨ρ,_,w,gL ht eZ hu hd je bl hlen (by omega) (im w rfl) (base:=none) rfl,.aj,bn.refl hr⟩
      ·rename_i jQ
       split at h
       ·rename_i dY
        cases hs
        obtain⟨dC,jB,aP⟩:=iW (tys:=tys) (ty:=ty) (w:=w) (n:=n) (x:=x') (old:=[]) (new:=fm) ht eZ hu hd je bl hi (s:=.slice none 0 0) rfl hlen hJ (by omega) c2 (by simpa using dY)
         (fun bq _=>by simp [Builtin.firstCells]) im
        rw[Nat.zero_add] at jB aP
        obtain⟨l,gA,hv⟩:=j5 (e:=e) hr cx (old:=[]) (old':=[]) .nil jr (by simpa using nA) oC dC jB true
        have hh:some (grown σ id sz n new true)=some (v,σ'):=h
        cases hh
        exact⟨_,_,_,aP,hv,gA⟩
       ·cases h
     ·rename_i b off m cap ex esz
      cases hs with
      | slice hl hex cW hN hn=>
       rename_i cy off' cap'
       have po:cap≤cap':=by
        cases ex with
        | true=>exact Nat.le_of_eq (hex rfl).1.symm
        | false=>exact(cW rfl).1
       split at h
       ·cases h
       ·rename_i bN
        have bN:sz=esz:=by simpa using bN
        subst bN
        split at h
        ·rename_i jQ
         subst jQ
         cases h
         have sB:fm=[]:=by
          have:=jr.length
          rw[nA,Nat.zero_mul] at this
          exact List.eq_nil_of_length_eq_zero this.symm
         subst sB
         exact⟨ρ,_,w,gL ht eZ hu hd je bl hlen (by omega) (im w rfl) (base:=some _) rfl,.slice hl hex cW hN (by omega),bn.refl hr⟩
        split at h
        ·rename_i xB
         rw[Option.map_eq_some_iff] at h
         obtain⟨aJ,aH,he⟩:=h
         cases he
         obtain⟨w',aP,gA⟩:=hr.store (P:=P) (ids:=fun b=>b=id) aH hl jr
         by_cases hz:off'=cy.o+off
         ·subst hz
          refine⟨ρ,_,w',gL ht eZ hu hd je bl hlen (by omega) (im w rfl) (base:=some _) ?_,.slice hl hex (fun he=>?_) hN (by omega),gA⟩
          ·dsimp only
           rw[eA,Nat.add_assoc]
           exact aP
          ·exact⟨po,.inl rfl⟩
         ·have hzero:m=0∧cap=0:=by
           cases ex with
           | true=>exact absurd (hex rfl).2 hz
           | false=>
            rcases(cW rfl).2 with h' | h'
            ·exact absurd h' hz
            ·exact h'
          have jQ:n=0:=by omega
          subst jQ
          have sB:fm=[]:=by
           have:=jr.length
           rw[nA,Nat.zero_mul] at this
           exact List.eq_nil_of_length_eq_zero this.symm
          subst sB
          have hw:w'=w:=by
           have h1:(storeCells (⟨cy.c,cy.o+(off+m*sz),none⟩:Addr) []).run P w=.ok () w:=rfl
           rw[h1] at aP
           injection aP with _ h2
           exact h2.symm
          subst hw
          exact⟨ρ,_,w',gL ht eZ hu hd je bl hlen (by omega) (im w' rfl) (base:=some _) rfl,.slice hl hex (fun he=>⟨po,.inr ⟨by omega,hzero.2⟩⟩) hN (by omega),gA⟩
        ·rename_i xB
         split at h
         ·rename_i dY
          rw[Option.bind_eq_some_iff] at h
          obtain⟨old,hold,h⟩:=h
          obtain⟨old',SB,SC,abL⟩:=zK (P:=P) (k:=cap') hr hold hl hex cW
          have OU:old.length+new.length=(m+n)*sz:=by rw[abL,nA,Nat.add_mul]
          unfold oF at h
          split at h
          ·have hce:=(hex rfl).1
           obtain⟨dC,jB,aP⟩:=iW (tys:=tys) (ty:=ty) (w:=w) (n:=n) (x:=x') (old:=old') (new:=fm) ht eZ hu hd je bl hi rfl hlen hJ (by omega) c2 dY SB im
           obtain⟨l,gA,hv⟩:=j5 (e:=e) hr cx SC jr OU oC dC jB true
           have hh:some (grown σ id sz (m+n) (app old new) true)=some (v,σ'):=h
           cases hh
           exact⟨_,_,_,aP,hv,gA⟩
          ·split at h
           ·rename_i pl ow ou
            rw[sd] at ou
            have hh:some (grown (σ.kill b) id sz (m+n) (app old new) pl)=some (v,σ'):=h
            cases hh
            by_cases Kf:m+n≤cap'
            ·have hz:off'=cy.o+off∨m=0:=(cW rfl).2.imp (fun h=>h) And.left
             obtain⟨w',aH,gA⟩:=Gl (P:=P) hr cx hold hl hz ow hN Kf jr ou nA
             exact⟨_,_,w',gL ht eZ hu hd je bl hlen Kf (im w rfl) (base:=some _) aH,
              .slice (l:=⟨cy.c,off',cy.N⟩) (j2 _ _ _) (by simp) (fun _=>⟨Kf,.inl rfl⟩) (by simpa using hN) (Nat.le_refl _),gA⟩
            ·obtain⟨dC,jB,aP⟩:=iW (tys:=tys) (ty:=ty) (w:=w) (n:=n) (x:=x') (old:=old') (new:=fm) ht eZ hu hd je bl hi rfl hlen hJ Kf c2 dY SB im
             have hk:=bn.kill (ids:=fun b=>b=id) hr b
             obtain⟨l,gA,hv⟩:=j5 (e:=e) hk.r cx SC jr OU oC dC jB pl
             exact⟨_,_,_,aP,hv,hk.trans gA⟩
           ·cases h
         ·cases h
     ·rename_i es esz
      split at h
      ·cases h
      ·rename_i bN
       have bN:sz=esz:=by simpa using bN
       subst bN
       split at h
       ·rename_i jQ
        subst jQ
        cases h
        have sB:fm=[]:=by
         have:=jr.length
         rw[nA,Nat.zero_mul] at this
         exact List.eq_nil_of_length_eq_zero this.symm
        subst sB
        cases hs with
        | br oz cX eQ gh j6=>exact⟨ρ,_,w,gL ht eZ hu hd je bl hlen (by omega) (im w rfl) (base:=some _) rfl,.br oz cX eQ (by omega) j6,bn.refl hr⟩
        | dS=>exact⟨ρ,_,w,gL ht eZ hu hd je bl hlen (by omega) (im w rfl) (base:=none) rfl,.dS,bn.refl hr⟩
        | du j6=>exact⟨ρ,_,w,gL ht eZ hu hd je bl hlen (by omega) (im w rfl) (base:=some _) rfl,.du j6,bn.refl hr⟩
       ·rename_i jQ
        split at h
        ·rename_i dY
         rw[aO] at h dY
         have hh:some (grown σ id sz (es.length+n) (app (aw es) new) true)=some (v,σ'):=h
         cases hh
         cases hs with
         | br oz cX eQ gh j6=>
          rename_i c off cap xs
          have hce:=j6 rfl
          have hl:=c8 oz
          have Bv:=cX.length
          obtain⟨dC,jB,aP⟩:=iW (tys:=tys) (ty:=ty) (w:=w) (n:=n) (x:=x') (old:=xs) (new:=fm) (s:=.slice (some ⟨c,off,none⟩) es.length cap) ht eZ hu hd je bl hi rfl hlen hJ (by omega) c2 dY
           (fun bq hw=>by
            have:=hr.v7 (P:=P) eQ bq hw
            rw[←Bv,hl] at this
            simpa [Builtin.firstCells] using this) im
          obtain⟨l,gA,hv⟩:=j5 (e:=e) hr cx cX jr (need:=es.length+n) (by rw[hl,nA,Nat.add_mul]) oC dC jB true
          exact⟨_,_,_,aP,hv,gA⟩
         | dS=>
          obtain⟨dC,jB,aP⟩:=iW (tys:=tys) (ty:=ty) (w:=w) (n:=n) (x:=x') (old:=[]) (new:=fm) (s:=.slice none 0 0) ht eZ hu hd je bl hi rfl hlen hJ (by omega) c2 dY
           (fun bq hw=>by simp [Builtin.firstCells]) im
          obtain⟨l,gA,hv⟩:=j5 (e:=e) hr cx (old:=aw []) (old':=[]) .nil jr (need:=0+n) (by simpa [aw] using nA) oC dC jB true
          exact⟨_,_,_,aP,hv,gA⟩
         | du j6=>
          rename_i cap a
          have h0:=j6 rfl
          subst h0
          obtain⟨dC,jB,aP⟩:=iW (tys:=tys) (ty:=ty) (w:=w) (n:=n) (x:=x') (old:=[]) (new:=fm) (s:=.slice (some a) 0 0) ht eZ hu hd je bl hi rfl hlen hJ (by omega) c2 dY
           (fun bq hw=>by simp [Builtin.firstCells,loadCells,loadCellsFrom]) im
          obtain⟨l,gA,hv⟩:=j5 (e:=e) hr cx (old:=aw []) (old':=[]) .nil jr (need:=0+n) (by simpa [aw] using nA) oC dC jB true
          exact⟨_,_,_,aP,hv,gA⟩
        ·cases h
     ·cases h
  ·cases h
 ·cases h
theorem gp {es:List V} {esz:Nat} (h:∀v∈es,v.cells.length=esz) {i:Nat} {u:V} (hi:es[i]? =some u) {k:Nat} (hk:k<esz):(aw es)[i*esz+k]? =u.cells[k]? :=by
 induction es generalizing i with
 | nil=>simp at hi
 | cons v es ih=>
  have hv:=h v List.mem_cons_self
  rw[ca]
  cases i with
  | zero=>
   simp at hi;subst hi
   rw[Nat.zero_mul,Nat.zero_add,List.getElem?_append_left (by omega)]
  | succ i=>
   rw[List.getElem?_append_right (by rw[hv,Nat.add_mul];omega),hv,show(i+1)*esz+k-esz=i*esz+k by rw[Nat.add_mul];omega]
   exact ih (fun u hu=>h u (List.mem_cons_of_mem _ hu)) (by simpa using hi)
theorem au.MX [Env] {m:Nat} {g:Nat→V} {esz:Nat} {ex:Bool} {x:Value} (h:au ρ (.br (cj m g) esz ex) x):∀i,i<m→(g i).cells.length=esz:=by
 intro i hi
 have bN:cj m g≠[]:=fun e=>by have:=aY m g;rw[e] at this;simp at this;omega
 generalize he:cj m g=es at h
 cases h with
 | br hu=>exact hu (g i) (by rw[←he];exact List.mem_of_getElem? (dt hi))
 | dS=>exact absurd he bN
 | du=>exact absurd he bN
theorem uS [Env] {ρ':Ren} {w':World} {sz m:Nat} {g:Nat→V} {cs:List V} (dI:cs=aw (cj m g)) (h:bn (fun b=>b=id) ρ σ w ρ' (grown σ id sz m cs true).2 w') (hu:∀i,i<m→(g i).cells.length=sz):
  bn (fun b=>b=id) ρ σ w ρ' (σ.new id (.row m g sz true)) w':=by
 subst dI
 have cP:∀v∈cj m g,v.cells.length=sz:=by
  intro v hv
  obtain⟨i,hi,rfl⟩:=List.getElem_of_mem hv
  rw[aY] at hi
  have:=dt (f:=g) hi
  rw[List.getElem?_eq_getElem (by rw[aY];exact hi)] at this
  rw[Option.some.inj this];exact hu i hi
 refine h.yj (b:=id) (n:=m) (f:=g) (esz:=sz) (z:=[]) (t:=ah (aw (cj m g)) .leaf 0) (p:=true) (by show(σ.new id _).heap.get id=_;rw[fJ,Trie.bY,if_pos rfl]) hu (fun i hi k v hk=>?_) (fun b'=>?_) (by show(σ.new id _).next=(σ.new id _).next;rw[lk,lk])
 ·have MY:k<sz:=by rw[←hu i hi];exact(List.getElem?_eq_some_iff.1 hk).1
  have bI:i*sz+k<m*sz:=by have:=ln hi (Nat.succ_le_of_lt MY);omega
  unfold cellOf
  have hb:Nat.blt (i*sz+k) (m*sz)=true:=by rw[Nat.blt_eq];exact bI
  rw[hb]
  dsimp only
  have WO:(aw (cj m g)).length=m*sz:=by rw[c8 cP,aY]
  rw[ky,if_pos ⟨Nat.zero_le _,by rw[WO];omega⟩,Nat.sub_zero,gp cP (dt hi) MY,hk]
 ·show(σ.new id _).heap.get b'=if b'=id then _ else(σ.new id _).heap.get b'
  rw[fJ,fJ,Trie.bY,Trie.bY]
  by_cases e:b'=id
  ·rw[if_pos e,if_pos e]
  ·rw[if_neg e,if_neg e,if_neg e]
theorem ma [Env] {ρ':Ren} {m sz:Nat} {v':Value} (hm:m≠0) (h:au ρ' (.slice id 0 m m false sz) v'):au ρ' (.own id m sz) v':=by
 cases h with
 | slice hl hex cW hN hn=>
  obtain⟨h1,h2⟩:=cW rfl
  rcases h2 with h2 | h2
  ·subst h2;exact .own hl h1 (by simpa using hN)
  ·exact absurd h2.1 hm
theorem Ck [Env] (hr:R ρ σ w) (cx:ρ id=none) {tys:Array TypeId} {ty t t':TypeId} (ht:tys[0]? =some t) (eZ:tys[1]? =some t') (oB:intType P t'=false) {m esz:Nat} {g:Nat→V} {ex nn:Bool} {s v:V} {σ':St}
  (h:nM P σ id t m g esz s=some (v,σ')) {s' x':Value} (hs:au ρ s s') (hx:au ρ (.arr m g esz ex nn) x'):
  ∃ρ' v' w',(Builtin.append_ tys ty #[s',x']).run P w=.ok v' w'∧au ρ' v v'∧bn (fun b=>b=id) ρ σ w ρ' σ' w':=by
 cases hx with
 | arr _ hx=>
 have hu:=au.MX hx
 unfold nM at h
 split at h
 ·rename_i e WQ
  split at h
  ·rename_i sz dp z bl pq hz
   split at h
   ·cases h
   ·rename_i jq
    rw[not_or,not_or,not_or] at jq
    obtain⟨c1,c2,c3,c4⟩:=jq
    rw[ne_eq,Decidable.not_not] at c4
    subst c4
    have base:∀OW,jk P σ id t OW (.br (cj m g) sz ex)=gT σ id sz dp m (aw (cj m g)) OW:=by
     intro OW
     unfold jk
     rw[WQ]
     dsimp only
     rw[bl,pq,hz]
     dsimp only
     rw[if_neg (by rw[not_or,not_or];exact⟨c1,c2,c3⟩)]
     unfold jj
     dsimp only
     rw[if_pos rfl,aO,aY]
    unfold jc at h
    split at h
    ·split at h
     ·rename_i hm
      refine il hr cx ht eZ oB (x:=.br (cj m g) sz ex) ?_ hs hx
      rw[base];unfold gT;dsimp only;rw[if_pos hm];exact h
     ·rename_i hm
      split at h
      ·rename_i dY
       cases h
       obtain⟨ρ',v',w',aP,hv,aH⟩:=il hr cx ht eZ oB (x:=.br (cj m g) sz ex) (s:=.aj) (v:=(grown σ id sz m (aw (cj m g)) true).1) (σ':=(grown σ id sz m (aw (cj m g)) true).2) (by
        rw[base];unfold gT;dsimp only;rw[if_neg hm,if_pos dY]) hs hx
       exact⟨ρ',v',w',aP,ma hm hv,uS rfl aH hu⟩
      ·cases h
    ·rename_i n f sC nn
     split at h
     ·cases h
     ·rename_i hn
      rw[not_or,ne_eq,Decidable.not_not,ne_eq,Decidable.not_not] at hn
      obtain⟨rfl,rfl⟩:=hn
      cases hs with
      | arr _ hs=>
      have h0:cj 0 f=[]:=rfl
      rw[h0] at hs
      split at h
      ·rename_i hm
       cases h
       obtain⟨ρ',v',w',aP,hv,aH⟩:=il hr cx ht eZ oB (x:=.br (cj m g) sz ex) (s:=.br [] sz true) (v:=.br [] sz true) (σ':=σ) (by
        rw[base];unfold gT;dsimp only;rw[if_neg (by simp),if_pos hm]) hs hx
       exact⟨ρ',v',w',aP,.arr (fun h=>by cases h) hv,aH⟩
      ·rename_i hm
       split at h
       ·rename_i dY
        cases h
        obtain⟨ρ',v',w',aP,hv,aH⟩:=il hr cx ht eZ oB (x:=.br (cj m g) sz ex) (s:=.br [] sz true) (v:=(grown σ id sz m (aw (cj m g)) true).1) (σ':=(grown σ id sz m (aw (cj m g)) true).2) (by
         rw[base];unfold gT;dsimp only
         rw[if_neg (by simp),if_neg hm,show len ([]:List V)+m=m from Nat.zero_add m,if_pos dY];rfl) hs hx
        exact⟨ρ',v',w',aP,ma hm hv,uS rfl aH hu⟩
       ·cases h
    ·rename_i b off n cap sC
     split at h
     case h_2=>cases h
     rename_i dI
     split at h
     ·cases h
     ·rename_i hn
      rw[not_or,not_or,ne_eq,Decidable.not_not,ne_eq,Decidable.not_not,ne_eq,Decidable.not_not] at hn
      obtain⟨rfl,rfl,rfl⟩:=hn
      split at h
      ·rename_i hm
       cases h
       exact il hr cx ht eZ oB (x:=.br (cj m g) sz ex) (s:=.slice b off 0 0 true sz) (v:=.slice b off 0 0 true sz) (σ':=σ) (by
        rw[base];unfold gT;dsimp only;rw[if_neg (by simp),if_pos hm]) hs hx
      ·rename_i hm
       split at h
       ·rename_i dY
        cases h
        obtain⟨ρ',v',w',aP,hv,aH⟩:=il hr cx ht eZ oB (x:=.br (cj m g) sz ex) (s:=.slice b off 0 0 true sz) (v:=(grown σ id sz m (aw (cj m g)) true).1) (σ':=(grown σ id sz m (aw (cj m g)) true).2) (by
         rw[base];unfold gT;dsimp only
         rw[if_neg (by simp),if_neg hm,if_neg (by omega),Nat.zero_add,if_pos dY,Nat.zero_mul,dI];rfl) hs hx
        exact⟨ρ',v',w',aP,ma hm hv,uS rfl aH hu⟩
       ·cases h
    ·cases h
  ·cases h
 ·cases h
theorem gB {n:Nat} {g:Nat→V} {esz:Nat} (hu:∀i,i<n→(g i).cells.length=esz):∀v∈cj n g,v.cells.length=esz:=by
 intro v hv
 obtain⟨i,hi,rfl⟩:=List.getElem_of_mem hv
 rw[aY] at hi
 have:=dt (f:=g) hi
 rw[List.getElem?_eq_getElem (by rw[aY];exact hi)] at this
 rw[Option.some.inj this];exact hu i hi
theorem WR [Env] {l:Loc} {n:Nat} {f:Nat→V} {esz:Nat} {p:Bool} (h:cI ρ w l (.row n f esz p)) {k:Nat} {v:V} (hk:(aw (cj n f))[k]? =some v):∃x,w.cell? ⟨l.c,l.o+k,none⟩=some x∧au ρ v x:=by
 cases h with
 | row hs hn hu hv hf hp=>
  have cP:=gB hu
  have bI:k<n*esz:=by
   have:=(List.getElem?_eq_some_iff.1 hk).1
   rw[c8 cP,aY] at this;exact this
  have h0:0<esz:=by
   rcases Nat.eq_zero_or_pos esz with h | h
   ·subst h;simp at bI
   ·exact h
  have hi:k/esz<n:=(Nat.div_lt_iff_lt_mul h0).2 bI
  have fB:k%esz<esz:=Nat.mod_lt _ h0
  have e:k/esz*esz+k%esz=k:=by rw[Nat.mul_comm];exact Nat.div_add_mod k esz
  have hg:=gp cP (dt (f:=f) hi) fB
  rw[e,hk] at hg
  obtain⟨x,hx,hr⟩:=hv _ hi _ v hg.symm
  rw[e] at hx
  exact⟨x,hx,hr⟩
theorem bn.GQ [Env] {ids:Nat→Prop} {bS:Ren} {σ₀:St} {fY:World} (h:bn ids bS σ₀ fY ρ σ w) {b n esz:Nat} {f:Nat→V} {p:Bool} (hb:σ.heap.get b=some (.row n f esz p))
  {σ':St} (MM:∀b',σ'.heap.get b'=if b'=b then some (.cells (n*esz) [] (ah (aw (cj n f)) .leaf 0) p false) else σ.heap.get b') (hn:σ'.next=σ.next):bn ids bS σ₀ fY ρ σ' w:=by
 have hd:∀b' k,σ'.heap.get b'=some k→∃k',σ.heap.get b'=some k':=by
  intro b' k hk
  rw[MM] at hk
  by_cases e:b'=b
  ·subst e;exact⟨_,hb⟩
  ·rw[if_neg e] at hk;exact⟨_,hk⟩
 have nT:∀c,Wr ρ σ' c→Wr ρ σ c:=by
  rintro c ⟨b',k,l,h1,_,h3,h4⟩
  obtain⟨k',fi⟩:=hd b' k h1
  exact⟨b',k',l,fi,rfl,h3,h4⟩
 refine⟨⟨fun b' k hk=>?_,fun c9 dc k₁ k₂ cr oe h1 h2=>?_,fun b' bG=>h.r.fresh b' (by rw[←hn];exact bG),h.r.valid,fun c o x hx=>⟨(h.r.aW c o x hx).1,fun hw=>(h.r.aW c o x hx).2 (nT c hw)⟩,h.r.laid⟩,
  h.le,by rw[hn];exact h.next,h.jz,h.size,h.os,h.tape,h.output,h.aV,fun c hc hw=>h.wr c hc (nT c hw),fun b' k hk=>?_,h.iG⟩
 ·rw[MM] at hk
  by_cases e:b'=b
  ·subst e
   rw[if_pos rfl] at hk
   cases hk
   obtain⟨l,hl,cT⟩:=h.r.di _ _ hb
   refine⟨l,hl,?_⟩
   have kU:=@WR ρ w _ l n f esz p cT
   cases cT with
   | row hs hn hu hv hf hp=>
    refine .cells hs hn (fun i v hi=>?_) (fun _=>hf) hp
    rcases gl hi with ⟨_,_,h3⟩ | ⟨_,h2⟩
    ·exact kU h3
    ·unfold cellOf at h2
     split at h2
     ·rw[Trie.eU] at h2;simp [dG] at h2
     ·cases h2
  ·rw[if_neg e] at hk;exact h.r.di b' k hk
 ·obtain⟨abH,fi⟩:=hd _ _ h1
  obtain⟨abI,C6⟩:=hd _ _ h2
  exact h.r.inj _ _ _ _ _ _ fi C6
 ·obtain⟨k',fB⟩:=hd _ _ hk
  exact h.jL b' k' fB
theorem yq {n:Nat} {z:List V} {t:Trie V}:∀(vs:List V) (off:Nat),(∀i v,vs[i]? =some v→cellOf n z t (off+i)=some v)→cellsOf n z t vs.length off=some vs
 | [],off,_=>rfl
 | v::vs,off,h=>by
  show k8 (cellOf n z t off) (cellsOf n z t vs.length (Nat.add off 1))=_
  rw[show cellOf n z t off=some v from h 0 v rfl,yq vs (Nat.add off 1) fun i u hu=>by
   have:=h (i+1) u (by simpa using hu)
   rwa [show off+(i+1)=Nat.add off 1+i by show off+(i+1)=off+1+i;omega] at this]
  rfl
theorem ru (vs:List V):cellsOf vs.length [] (ah vs .leaf 0) vs.length 0=some vs:=
 yq vs 0 fun i v hi=>by
  have bI:=(List.getElem?_eq_some_iff.1 hi).1
  unfold cellOf
  rw[Nat.zero_add,show Nat.blt i vs.length=true by rw[Nat.blt_eq];exact bI]
  dsimp only
  rw[ky,if_pos ⟨Nat.zero_le _,by omega⟩,Nat.sub_zero,hi]
theorem o7 (n:Nat) (f g:Nat→V) (j:Nat):cw n f g j=if j<n then f j else g (j-n):=by
 unfold cw
 by_cases h:j<n
 ·rw[if_pos h,show Nat.blt j n=true by rw[Nat.blt_eq];exact h]
 ·rw[if_neg h]
  cases hb:Nat.blt j n with
  | false=>rfl
  | true=>rw[Nat.blt_eq] at hb;exact absurd hb h
theorem OX (n m:Nat) (f g:Nat→V):cj (n+m) (cw n f g)=cj n f++cj m g:=by
 apply List.ext_getElem?
 intro i
 by_cases hi:i<n
 ·rw[List.getElem?_append_left (by rw[aY];exact hi),dt (by omega),dt hi,o7,if_pos hi]
 ·rw[List.getElem?_append_right (by rw[aY];omega),aY]
  by_cases e:i<n+m
  ·rw[dt e,o7,if_neg hi,dt (by omega)]
  ·rw[List.getElem?_eq_none (by rw[aY];omega),List.getElem?_eq_none (by rw[aY];omega)]
theorem Gm {σ:St} {sz:Nat} {x:V} {m:Nat} {g:Nat→V} {new:List V} (h:oneOf σ sz x=some (m,g,new)):
  m≠0∧jj σ sz x=some (m,new)∧aw (cj m g)=new:=by
 unfold oneOf at h
 split at h
 ·split at h
  ·rename_i hn hc
   cases h
   have hn:=Nat.eq_of_beq_eq_true hn
   subst hn
   refine⟨by omega,?_,?_⟩
   ·show(σ.cells _ _ (1*sz)).map _=_
    rw[hc];rfl
   ·show app new []=new
    rw[iS,List.append_nil]
  ·cases h
 ·rename_i es esz ex
  split at h
  ·rename_i hb
   rw[Bool.and_eq_true] at hb
   cases h
   have h1:=Nat.eq_of_beq_eq_true hb.1
   have h2:=hb.2
   rw[Nat.blt_eq] at h2
   subst h1
   refine⟨by omega,?_,?_⟩
   ·show(if esz=esz then some (len es,aw es) else none)=_
    rw[if_pos rfl]
   ·congr 1
    apply List.ext_getElem?
    intro i
    by_cases hi:i<es.length
    ·rw[dt (by rw[aO];exact hi)];unfold jK;rw[dG,List.getElem?_eq_getElem hi]
    ·rw[List.getElem?_eq_none (by rw[aY,aO];omega),List.getElem?_eq_none (by omega)]
  ·cases h
 ·cases h
theorem yr {σ lP:St} {b sz:Nat} {x:V} {m:Nat} {new:List V} (h:jj σ sz x=some (m,new)) (fK:∀b',b'≠b→lP.heap.get b'=σ.heap.get b') (hb:∃n f z p,σ.heap.get b=some (.row n f z p)):jj lP sz x=some (m,new):=by
 unfold jj at h⊢
 split at h
 ·exact h
 ·rename_i bx off n cap ex esz
  rw[Option.map_eq_some_iff] at h
  obtain⟨l,hl,he⟩:=h
  have:lP.cells bx off (n*sz)=σ.cells bx off (n*sz):=by
   unfold St.cells
   rw[fK bx fun e=>?_]
   subst e
   obtain⟨n',f,z,p,hb⟩:=hb
   unfold St.cells at hl
   rw[hb] at hl;cases hl
  rw[this,hl,Option.map_some]
  exact congrArg some he
 ·exact h
 ·exact h
 ·cases h
theorem Kg [Env] {sz:Nat} {x:V} {m:Nat} {g:Nat→V} {new:List V} (h:oneOf σ sz x=some (m,g,new)) {x':Value} (hx:au ρ x x') (hn:new.length=m*sz):∀i,i<m→(g i).cells.length=sz:=by
 unfold oneOf at h
 split at h
 ·split at h
  ·cases h
   intro i _
   show new.length=sz
   omega
  ·cases h
 ·rename_i es esz ex
  split at h
  ·rename_i hb
   rw[Bool.and_eq_true] at hb
   cases h
   have h1:=Nat.eq_of_beq_eq_true hb.1
   subst h1
   intro i hi
   rw[aO] at hi
   unfold jK
   rw[dG,List.getElem?_eq_getElem hi]
   have:∀v∈es,v.cells.length=esz:=by
    cases hx with
    | br hu=>exact hu
    | dS=>exact fun v hv=>by cases hv
    | du=>exact fun v hv=>by cases hv
   exact this _ (List.getElem_mem hi)
  ·cases h
 ·cases h
theorem Cl [Env] (hr:R ρ σ w) (cx:ρ id=none) {tys:Array TypeId} {ty t t':TypeId} (ht:tys[0]? =some t) (eZ:tys[1]? =some t') (oB:intType P t'=false) {b n esz:Nat} {v x:V} {σ':St}
  (h:nN P σ id t b n esz x=some (v,σ')) {s' x':Value} (hs:au ρ (.own b n esz) s') (hx:au ρ x x'):
  ∃ρ' v' w',(Builtin.append_ tys ty #[s',x']).run P w=.ok v' w'∧au ρ' v v'∧bn (fun b=>b=id) ρ σ w ρ' σ' w':=by
 unfold nN at h
 split at h
 ·rename_i e WQ
  split at h
  ·rename_i sz dp z bl pq hz
   split at h
   ·cases h
   ·rename_i jq
    rw[not_or,not_or,not_or] at jq
    obtain⟨c1,c2,c3,c4⟩:=jq
    rw[ne_eq,Decidable.not_not] at c4
    subst c4
    split at h
    ·rename_i m g new gn
     obtain⟨rq,jB,hfg⟩:=Gm gn
     unfold uA at h
     split at h
     ·rename_i n' f esz p hb
      split at h
      ·rename_i hc
       obtain⟨rfl,rfl,_,dY,ou⟩:=hc
       cases h
       let cs:=aw (cj n' f)
       let lP:=σ.set b (.cells (n'*esz) [] (ah cs .leaf 0) p false)
       have fK:∀b',lP.heap.get b'=if b'=b then some (.cells (n'*esz) [] (ah cs .leaf 0) p false) else σ.heap.get b':=fun b'=>by
        show(σ.set b _).heap.get b'=_
        rw[mR,Trie.bY]
       have aH:=bn.GQ (σ':=lP) (bn.refl (ids:=fun b=>b=id) hr) hb fK (by show(σ.set b _).next=_;rw[sv])
       have hsl:au ρ (.slice b 0 n' n' false esz) s':=by
        cases hs with
        | own hl hc hN=>exact .slice hl (fun h=>by cases h) (fun _=>⟨hc,.inl rfl⟩) hN (Nat.le_refl _)
       obtain⟨l,hl,cT⟩:=hr.di _ _ hb
       have hu:∀i,i<n'→(f i).cells.length=esz:=by cases cT with | row hs hn hu=>exact hu
       have jd:cs.length=n'*esz:=by show(aw _).length=_;rw[c8 (gB hu),aY]
       obtain⟨_,_,_,_,Dd⟩:=uR (P:=P) hr jB hx
       have aX:jk P lP id t (.slice b 0 n' n' false esz) x=some (grown (lP.kill b) id esz (n'+m) (app cs new) p):=by
        unfold jk
        rw[WQ]
        dsimp only
        rw[bl,pq,hz]
        dsimp only
        rw[if_neg (by rw[not_or,not_or];exact⟨c1,c2,c3⟩)]
        have h1:jj lP esz x=some (m,new):=yr jB (fun b' e=>by rw[fK,if_neg e]) ⟨_,_,_,_,hb⟩
        rw[h1]
        show gT lP id esz dp m new (.slice b 0 n' n' false esz)=_
        unfold gT
        dsimp only
        rw[if_neg (by simp),if_neg rq,if_neg (by omega),if_pos dY]
        have h2:lP.cells b 0 (n'*esz)=some cs:=by
         unfold St.cells
         rw[fK,if_pos rfl]
         show cellsOf (n'*esz) [] (ah cs .leaf 0) (n'*esz) 0=some cs
         rw[←jd]
         exact ru cs
        rw[h2]
        show oF lP id esz b false (n'+m) new cs=_
        unfold oF
        dsimp only
        have h3:pd lP b=some p:=by
         unfold pd
         rw[fK,if_pos rfl]
        rw[h3,ou]
       obtain⟨ρ',v',w',aP,hv,mb⟩:=il aH.r cx ht eZ oB aX hsl hx
       refine⟨ρ',v',w',aP,ma (by omega) hv,aH.trans ?_⟩
       have WO:aw (cj (n'+m) (cw n' f g))=app cs new:=by
        rw[OX,xr,iS,hfg]
       have hug:∀i,i<m→(g i).cells.length=esz:=Kg gn hx Dd
       have oz:∀i,i<n'+m→(cw n' f g i).cells.length=esz:=by
        intro i hi
        rw[o7]
        by_cases h:i<n'
        ·rw[if_pos h];exact hu i h
        ·rw[if_neg h];exact hug _ (by omega)
       refine mb.yj (b:=id) (n:=n'+m) (f:=cw n' f g) (esz:=esz) (z:=[]) (t:=ah (app cs new) .leaf 0) (p:=p) (by show((lP.kill b).new id _).heap.get id=_;rw[fJ,Trie.bY,if_pos rfl]) oz (fun i hi k v hk=>?_) (fun b'=>?_) (by show((σ.kill b).new id _).next=((lP.kill b).new id _).next;rw[lk,lk,uK,uK];show max σ.next (id+1)=max (σ.set b _).next (id+1);rw[sv])
       ·have MY:k<esz:=by rw[←oz i hi];exact(List.getElem?_eq_some_iff.1 hk).1
        have bI:i*esz+k<(n'+m)*esz:=by have:=ln hi (Nat.succ_le_of_lt MY);omega
        unfold cellOf
        have hbb:Nat.blt (i*esz+k) ((n'+m)*esz)=true:=by rw[Nat.blt_eq];exact bI
        rw[hbb]
        dsimp only
        rw[ky,←WO,if_pos ⟨Nat.zero_le _,by rw[c8 (gB oz),aY];omega⟩,Nat.sub_zero,gp (gB oz) (dt hi) MY,hk]
       ·show((σ.kill b).new id _).heap.get b'=if b'=id then _ else((lP.kill b).new id _).heap.get b'
        rw[fJ,fJ,Trie.bY,Trie.bY,nS,nS,Trie.bY,Trie.bY]
        by_cases e:b'=id
        ·rw[if_pos e,if_pos e]
        ·rw[if_neg e,if_neg e,if_neg e]
         by_cases e2:b'=b
         ·rw[if_pos e2,if_pos e2]
         ·rw[if_neg e2,if_neg e2,fK,if_neg e2]
      ·cases h
     ·cases h
    ·cases h
  ·cases h
 ·cases h
theorem Gn [Env] (hr:R ρ σ w) (cx:ρ id=none) {tys:Array TypeId} {ty t t':TypeId} (ht:tys[0]? =some t) (eZ:tys[1]? =some t') (oB:intType P t'=false) {s x v:V} {σ':St}
  (h:jH P σ id t s x=some (v,σ')) {s' x':Value} (hs:au ρ s s') (hx:au ρ x x'):
  ∃ρ' v' w',(Builtin.append_ tys ty #[s',x']).run P w=.ok v' w'∧au ρ' v v'∧bn (fun b=>b=id) ρ σ w ρ' σ' w':=by
 unfold jH at h
 split at h
 ·exact Ck hr cx ht eZ oB h hs hx
 ·split at h
  ·exact Cl hr cx ht eZ oB h hs hx
  ·exact il hr cx ht eZ oB h hs hx
theorem wX [Env] {ρ:Ren} {z:V} {zv:Value} (h:au ρ z zv) {sz n:Nat} (hs:z.cells.length=sz) (h0:sz≠0):aB ρ (lI sz n z.cells) (Builtin.zeroCells zv.cells n).toList:=by
 have hc:=h.cells
 have bl:zv.cells.size=sz:=by rw[←hs,hc.length];simp
 unfold lI Builtin.zeroCells
 rw[bl]
 generalize n*sz=m
 rw[Array.toList_map,Array.toList_range]
 generalize List.range m=l
 induction l with
 | nil=>exact .nil
 | cons i l ih=>
  refine .cons ?_ ih
  have hi:i%sz<sz:=Nat.mod_lt _ (by omega)
  obtain⟨x,hx,hr⟩:=hc.get (i%sz) (show z.cells[i%sz]? =some _ from List.getElem?_eq_getElem (by omega))
  have e1:z.cells.getD (i%sz) dg=z.cells[i%sz]'(by omega):=by rw[List.getD_eq_getElem?_getD,List.getElem?_eq_getElem (by omega)];rfl
  have e2:zv.cells[i%sz]! =x:=by
   rw[getElem!_pos zv.cells (i%sz) (by omega)]
   rw[Array.getElem?_toList,Array.getElem?_eq_getElem (by omega)] at hx
   exact Option.some.inj hx
  show au ρ (z.cells.getD (i%sz) dg) (zv.cells[i%sz]!)
  rw[e1,e2];exact hr
theorem De [Env] (hr:R ρ σ w) (cx:ρ id=none) {tys:Array TypeId} {ty t t':TypeId} (ht:tys[0]? =some t) (eZ:tys[1]? =some t') {s x v:V} {σ':St}
  (h:kP P σ id t t' s x=some (v,σ')) {s' x':Value} (hs:au ρ s s') (hx:au ρ x x'):
  ∃ρ' v' w',(Builtin.append_ tys ty #[s',x']).run P w=.ok v' w'∧au ρ' v v'∧bn (fun b=>b=id) ρ σ w ρ' σ' w':=by
 unfold kP at h
 split at h
 ·rename_i e kk hu hd
  split at h
  ·rename_i n
   split at h
   ·rename_i sz dp z bl pq hz
    split at h
    ·cases h
    ·rename_i jq
     rw[not_or,not_or,not_or,not_or] at jq
     obtain⟨c1,c2,c3,c4,c5⟩:=jq
     rw[aO,ne_eq,Decidable.not_not] at c3
     obtain⟨i,hi,rfl⟩:=sw pq
     obtain⟨zv,hJ,qf⟩:=ig (P:=P) hz ρ
     have oC:zv.cells.size=sz:=by rw[←c3,qf.cells.length];simp
     obtain⟨N,rfl⟩:∃N:Nat,n=(N:Int):=⟨n.toNat,by omega⟩
     rw[Int.toNat_natCast] at h c5
     have dY:N*i.bytes≤1099511627776:=by omega
     have zL:1≤i.bytes:=by omega
     have abJ:N≤1099511627776:=Nat.le_trans (Nat.le_mul_of_pos_right _ zL) dY
     have abK:Builtin.nextslicecap N 0*i.bytes≤2^48:=by
      have h1:=nextslicecap_le (need:=N) (cap:=0) (by omega)
      have h2:Builtin.nextslicecap N 0*i.bytes≤(2*N+192)*i.bytes:=Nat.mul_le_mul_right _ h1
      have h3:(2*N+192)*i.bytes=2*(N*i.bytes)+192*i.bytes:=by rw[Nat.add_mul,Nat.mul_assoc]
      have h4:i.bytes≤1099511627776:=Nat.le_trans (Nat.le_mul_of_pos_left _ (by omega)) dY
      omega
     cases hs;cases hx
     have abM:IntKind.i64.wrap (N:Int)=N:=by
      have h1:((N:Int)%(2^64:Int))=N:=Int.emod_eq_of_lt (by omega) (by omega)
      unfold IntKind.wrap
      simp only[IntKind.signed,IntKind.bits,h1,Bool.true_and]
      rw[if_neg (by simp;omega)]
     let q:Question:=.appendCap (0+N) 0 e
     have OT:0+N≤q.cut (w.tape w.drawn q):=by simp [q,Question.cut]
     have gn:aB ρ (lI sz N z.cells) (Builtin.zeroCells zv.cells N).toList:=wX qf c3 c1
     have Dd:(lI sz N z.cells).length=N*sz:=by simp [lI]
     obtain⟨l,gA,hv⟩:=j5 (e:=e) hr cx (old:=[]) (old':=[]) .nil gn (need:=N) (by simpa using Dd) oC (q.cut (w.tape w.drawn q)) (by simpa using OT) true
     have hh:some (grown σ id sz N (lI sz N z.cells) true)=some (v,σ'):=h
     cases hh
     refine⟨_,_,_,?_,hv,gA⟩
     have kH:(#[Value.slice none 0 0,Value.int .i64 (N:Int)]:Array Value)[0]? =some (Value.slice none 0 0):=rfl
     have Bu:(#[Value.slice none 0 0,Value.int .i64 (N:Int)]:Array Value)[1]? =some (Value.int .i64 (N:Int)):=rfl
     have Dc:¬((N:Int)<0):=by omega
     have Da:¬((N:Int)*(i.bytes:Int)>2^48):=by
      have:(N:Int)*(i.bytes:Int)=((N*i.bytes:Nat):Int):=by simp
      rw[this];omega
     have xB:¬(0+N≤0):=by omega
     have ae5:¬(((0+N:Nat):Int)>IntKind.i64.max∧(True∨i.bytes=0)):=by rw[Ub];omega
     have abN:¬(Builtin.nextslicecap (0+N) 0*i.bytes>2^48):=by rw[Nat.zero_add];omega
     have hnz:¬(N*sz=0):=by
      intro h0
      rcases Nat.mul_eq_zero.1 h0 with h0 | h0<;>omega
     have rr:q.forced=false:=rfl
     simp only[Builtin.append_,ht,eZ,kH,Bu,Sem.run_bind,run_underlying hu,run_underlying hd,Result.andThen_ok,bw bl,Sem.run_pure,if_true,asInt,asIntOf,abM,if_neg Dc,run_typeInfo hi,if_neg Da,Int.toNat_natCast]
     rw[if_neg xB]
     simp only[Sem.run_bind,run_typeInfo hi,Result.andThen_ok,if_neg ae5,if_neg abN,run_choose,q,rr,Bool.false_eq_true,if_false,run_askRoom,Bool.not_true,if_neg hnz,hJ,Sem.run_pure,Builtin.firstCells]
     simp only[Nat.zero_add,Array.toArray_toList,Array.empty_append] at *
     simp
     rfl
   ·cases h
  ·cases h
 ·cases h
end
end Go.Ev
