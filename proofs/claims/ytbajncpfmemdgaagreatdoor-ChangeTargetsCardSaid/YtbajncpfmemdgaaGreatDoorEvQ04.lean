/- Proved: parts of the way: OpsC. -/
import Derived.Test.YtbajncpfmemdgaaGreatDoorEvQ03
namespace Go.Ev
open Go
section
variable {P:Program} {ρ:aA} {σ:St} {w:World} {id:Nat} {p:V×St→Prop}
inductive OV [Env] (ρ:aA):Option V→Option Value→Prop
 | none:OV ρ none none
 | some {v:V} {x:Value} (h:au ρ v x):OV ρ (some v) (some x)
theorem bD.iZ [Env] {a:Act} {a':Go.Act} (h:bD ρ a a') {x:Option Operand} {v:Option V} (hv:iZ a x=some v):OV ρ v (x.map a'.eval):=by
 cases x with
 | none=>cases hv;exact .none
 | some x=>
  have m8:(a.eval x).map some=some v:=hv
  rw[Option.map_eq_some_iff] at m8
  obtain⟨u,hu,rfl⟩:=m8
  exact .some (h.eval x hu)
theorem dV [Env] {hi y:Nat} {v:V} {n:Nat} (h:asNat 0 hi v=some n) {x:Value} (hx:au ρ v x) (hy:hi≤y) (code:BoundsCode) (w:World):
  (Instr.sliceBound x y code).run P w=.ok n w∧n≤hi:=by
 unfold asNat at h
 split at h
 ·split at h
  ·rename_i k i hc
   cases h;cases hx
   have h0:0≤i∧i≤(y:Int):=⟨by simpa using hc.1,by omega⟩
   refine⟨?_,by omega⟩
   simp only[Instr.sliceBound,asIntOf,Sem.run_bind,Sem.run_pure,Result.andThen_ok]
   rw[if_pos h0];rfl
  ·cases h
 ·cases h
theorem gH [Env] {n cap cap':Nat} (hc:cap≤cap') {lo hi mx:Option V} {l hh m:Nat} (h:bounds n cap lo hi mx=some (l,hh,m)) {vm eW vn:Option Value} (h1:OV ρ lo vm) (h2:OV ρ hi eW) (h3:OV ρ mx vn)
  (Td:Bool) (w:World):(Instr.sliceBounds Td n cap' vm eW vn).run P w=.ok (l,hh,if mx.isSome then m else cap') w∧l≤hh∧m≤cap∧(mx.isSome=false→m=cap)∧(hi.isSome=true→hh≤m)∧(mx.isSome=true→hh≤m)∧(hi.isSome=false→hh=n):=by
 unfold bounds at h
 cases h3 with
 | none=>
  dsimp only at h
  cases h2 with
  | none=>
   dsimp only at h
   cases h1 with
   | none=>cases h;refine⟨by simp [Instr.sliceBounds],by omega,by omega,by simp,by simp,by simp,by simp⟩
   | some h1=>
    dsimp only at h
    split at h
    ·cases h
    ·rename_i l' hl
     cases h
     obtain⟨r1,b1⟩:=dV (P:=P) hl h1 (Nat.le_refl _) .sliceB w
     exact⟨by simp [Instr.sliceBounds,r1],b1,by omega,by simp,by simp,by simp,by simp⟩
  | some h2=>
   dsimp only at h
   split at h
   ·cases h
   ·rename_i h' Nu
    have r2:=fun code=>(dV (P:=P) Nu h2 hc code w).1
    have b2':=(dV (P:=P) Nu h2 hc .sliceAlen w).2
    cases h1 with
    | none=>
     cases h
     refine⟨?_,by omega,by omega,by simp,by simpa using b2',by simp,by simp⟩
     simp [Instr.sliceBounds,r2]
    | some h1=>
     dsimp only at h
     split at h
     ·cases h
     ·rename_i l' hl
      cases h
      obtain⟨r1,b1⟩:=dV (P:=P) hl h1 (Nat.le_refl _) .sliceB w
      refine⟨?_,b1,by omega,by simp,by simpa using b2',by simp,by simp⟩
      simp [Instr.sliceBounds,r2,r1]
 | some h3=>
  dsimp only at h
  split at h
  ·cases h
  ·rename_i m' hm
   have r3:=fun code=>(dV (P:=P) hm h3 hc code w).1
   have b3:=(dV (P:=P) hm h3 hc .sliceAlen w).2
   cases h2 with
   | none=>dsimp only at h;cases h
   | some h2=>
    dsimp only at h
    split at h
    ·cases h
    ·rename_i h' Nu
     have r2:=fun code=>(dV (P:=P) Nu h2 (Nat.le_refl _) code w).1
     have b2:=(dV (P:=P) Nu h2 (Nat.le_refl _) .sliceAlen w).2
     cases h1 with
     | none=>
      cases h
      refine⟨?_,by omega,b3,by simp,by simpa using b2,by simpa using b2,by simp⟩
      simp [Instr.sliceBounds,r3,r2]
     | some h1=>
      dsimp only at h
      split at h
      ·cases h
      ·rename_i l' hl
       cases h
       have r1:=fun code=>(dV (P:=P) hl h1 (Nat.le_refl _) code w).1
       have b1:=(dV (P:=P) hl h1 (Nat.le_refl _) .sliceAlen w).2
       refine⟨?_,b1,b3,by simp,by simpa using b2,by simpa using b2,by simp⟩
       simp [Instr.sliceBounds,r3,r2,r1]
theorem Ag {es:List V} {esz:Nat} (h:∀v∈es,v.cells.length=esz) (n:Nat):ax (es.take n)=(ax es).take (n*esz):=by
 induction es generalizing n with
 | nil=>simp [ax]
 | cons v es ih=>cases n with
  | zero=>simp [ax]
  | succ n=>
   have hv:=h v List.mem_cons_self
   rw[List.take_succ_cons,ca,ca,ih (fun u hu=>h u (List.mem_cons_of_mem _ hu)),Nat.add_mul,Nat.one_mul,Nat.add_comm (n*esz),←hv,List.take_length_add_append]
theorem np {es:List V} {esz:Nat} (h:∀v∈es,v.cells.length=esz) (n:Nat):ax (es.drop n)=(ax es).drop (n*esz):=by
 induction es generalizing n with
 | nil=>simp [ax]
 | cons v es ih=>cases n with
  | zero=>simp
  | succ n=>
   have hv:=h v List.mem_cons_self
   rw[List.drop_succ_cons,ca,ih (fun u hu=>h u (List.mem_cons_of_mem _ hu)),Nat.add_mul,Nat.one_mul,Nat.add_comm (n*esz),←hv,List.drop_length_add_append]
theorem au.part [Env] {es:List V} {esz c off l n M:Nat} {ex:Bool} {xs:List Value} (hu:∀v∈es,v.cells.length=esz) (hx:ay ρ (ax es) xs) (hi:∀k x,xs[k]? =some x→ρ.aV c (off+k)=some x)
  (hl:l+n≤es.length) (hM:n≤M) (he:ex=true→M=n) {o2:Nat} (ho:n=0∨o2=off+l*esz):au ρ (.bX (cU (c9 l es) n) esz ex) (.slice (some ⟨c,o2,none⟩) n M):=by
 rw[dW,er]
 have hlen:((es.drop l).take n).length=n:=by simp;omega
 have oJ:∀v∈es.drop l,v.cells.length=esz:=fun v hv=>hu v (List.mem_of_mem_drop hv)
 have key:au ρ (.bX ((es.drop l).take n) esz ex) (.slice (some ⟨c,o2,none⟩) ((es.drop l).take n).length M):=by
  refine .bX (xs:=(xs.drop (l*esz)).take (n*esz)) (fun v hv=>oJ v (List.mem_of_mem_take hv)) ?_ (fun k x hk=>?_) (by omega) (fun h=>by rw[hlen];exact he h)
  ·rw[Ag oJ,np hu]
   exact(hx.drop _).take _
  ·rw[List.getElem?_take] at hk
   split at hk
   ·rename_i eV
    rw[List.getElem?_drop] at hk
    rcases ho with h0 | h0
    ·subst h0;omega
    ·rw[h0,Nat.add_assoc];exact hi _ x hk
   ·cases hk
 rw[hlen] at key
 exact key
theorem uF [Env] {t e:TypeId} {es:List V} {esz:Nat} {ex:Bool} {v:V} {lo hi mx:Option V} (hu:P.underlying t=some (.slice e)) {sz l hh m:Nat} (bk:bV P e=some sz) (hb:bounds (len es) (len es) lo hi mx=some (l,hh,m)) (bS:sz=esz)
  (hv:v=.bX (cU (c9 l es) (hh-l)) esz ((mx.isSome||(ex&&Nat.beq hh (len es)))&&Nat.beq hh m)) {x':Value} {vm eW vn:Option Value} (hx:au ρ (.bX es esz ex) x') (h1:OV ρ lo vm) (h2:OV ρ hi eW) (h3:OV ρ mx vn)
  (w:World):∃v',(Instr.sliceAt t x' vm eW vn).run P w=.ok v' w∧au ρ v v':=by
 subst bS hv
 rw[aP] at hb⊢
 cases hx with
 | bX oJ hx eW hc he=>
  rename_i c off cap' xs
  obtain⟨hr,Nv,Hw,yL,rR,xj,qC⟩:=gH (P:=P) hc hb h1 h2 h3 true w
  obtain⟨M,hM⟩:∃M,M=(if mx.isSome then m else cap'):=⟨_,rfl⟩
  have hhm:hh≤m:=by
   cases oK:hi.isSome with
   | true=>exact rR oK
   | false=>
    cases lg:mx.isSome with
    | true=>exact xj lg
    | false=>rw[qC oK,yL lg];exact Nat.le_refl _
  have hmM:m≤M:=by rw[hM];split<;>omega
  have uG:m≤es.length:=Hw
  obtain⟨k,rfl⟩:∃k,M=l+k:=⟨M-l,by omega⟩
  have e1:l+k-l=k:=by omega
  refine⟨.slice (some (if l+k=l then⟨c,off,none⟩ else⟨c,off+l*sz,none⟩)) (hh-l) (l+k-l),?_,?_⟩
  ·simp only[Instr.sliceAt,Sem.run_bind,run_underlying hu,Result.andThen_ok,Instr.slice,hr,bB bk,←hM,Sem.run_pure]
   split<;>simp [eJ]
  ·rw[e1]
   have hex:((mx.isSome||(ex&&Nat.beq hh es.length))&&Nat.beq hh m)=true→k=hh-l:=by
    intro h
    rw[Bool.and_eq_true] at h
    have g1:=Nat.eq_of_beq_eq_true h.2
    cases lg:mx.isSome with
    | true=>rw[lg,if_pos rfl] at hM;omega
    | false=>
     rw[lg] at h hM
     simp only[Bool.false_or,Bool.and_eq_true,Bool.false_eq_true,if_false] at h hM
     have g2:=Nat.eq_of_beq_eq_true h.1.2
     have g3:=he h.1.1
     omega
   by_cases lh:l+k=l
   ·rw[if_pos lh]
    exact au.part oJ hx eW (by omega) (by omega) hex (.inl (by omega))
   ·rw[if_neg lh]
    exact au.part oJ hx eW (by omega) (by omega) hex (.inr rfl)
 | dP=>
  obtain⟨hr,hl,hm,_,rR,xj,qC⟩:=gH (P:=P) (Nat.le_refl _) hb h1 h2 h3 true w
  have Nw:hh=0:=by
   cases hi with
   | none=>exact qC rfl
   | some _=>have:=rR rfl;simp at hm;omega
  have rS:(if mx.isSome then m else 0)=0:=by split<;>simp at hm<;>omega
  have DQ:l=0:=by omega
  refine⟨.slice none 0 0,?_,?_⟩
  ·subst DQ Nw
   simp only[List.length_nil] at hr
   simp only[Instr.sliceAt,Sem.run_bind,run_underlying hu,Result.andThen_ok,Instr.slice,hr,rS,bB bk]
   simp
  ·rw[dW,er]
   simp only[List.drop_nil,List.take_nil]
   exact .dP
 | dt he=>
  rename_i cap' a
  obtain⟨hr,hl,hm,_,rR,xj,qC⟩:=gH (P:=P) (Nat.zero_le cap') hb h1 h2 h3 true w
  have Nw:hh=0:=by
   cases hi with
   | none=>exact qC rfl
   | some _=>have:=rR rfl;simp at hm;omega
  have DQ:l=0:=by omega
  obtain⟨M,hM⟩:∃M,M=(if mx.isSome then m else cap'):=⟨_,rfl⟩
  refine⟨.slice (some a) 0 M,?_,?_⟩
  ·subst DQ Nw
   simp only[List.length_nil] at hr
   simp only[Instr.sliceAt,Sem.run_bind,run_underlying hu,Result.andThen_ok,Instr.slice,hr,bB bk,←hM,Sem.run_pure]
   split<;>simp [Addr.add]
  ·rw[dW,er]
   simp only[List.drop_nil,List.take_nil]
   refine .dt fun h=>?_
   rw[Bool.and_eq_true] at h
   have rS:m=0:=by simp at hm;omega
   cases lg:mx.isSome with
   | true=>rw[lg,if_pos rfl] at hM;omega
   | false=>
    rw[lg] at h hM
    simp only[Bool.false_or,Bool.and_eq_true,Bool.false_eq_true,if_false] at h hM
    rw[hM];exact he h.1.1
theorem CK [Env] {t:TypeId} {x v:V} {lo hi mx:Option V} (h:nZ P t x lo hi mx=some v) {x':Value} {vm eW vn:Option Value} (hx:au ρ x x') (h1:OV ρ lo vm) (h2:OV ρ hi eW) (h3:OV ρ mx vn)
  (w:World):∃v',(Instr.sliceAt t x' vm eW vn).run P w=.ok v' w∧au ρ v v':=by
 unfold nZ at h
 split at h
 ·rename_i s hu
  split at h
  ·cases h
  ·rename_i hmx
   have:mx=none:=by cases mx<;>simp_all
   subst this
   cases h3
   split at h
   ·rename_i l hh m hb
    cases h;cases hx
    rw[aP] at hb
    obtain⟨hr,hl,hm,_,_⟩:=gH (P:=P) (Nat.le_refl _) hb h1 h2 .none false w
    refine⟨.string ⟨⟨c9 l (cU s hh)⟩⟩,?_,.str _⟩
    simp only[Instr.sliceAt,Sem.run_bind,run_underlying hu,Result.andThen_ok,Instr.slice]
    rw[show(⟨⟨s⟩⟩:ByteArray).size=s.length from rfl]
    simp only[Option.isSome_none,Bool.false_eq_true,if_false,hr,Sem.run_bind,Result.andThen_ok,Sem.run_pure]
    rw[Lib.extract_eq,er,dW,List.drop_take]
   ·cases h
 ·rename_i e hu
  split at h
  ·rename_i sz r bk hb
   cases h;cases hx
   obtain⟨l,hh,m⟩:=r
   obtain⟨hr,hl,hm,_,rR,xj,qC⟩:=gH (P:=P) (Nat.le_refl _) hb h1 h2 h3 true w
   have Nw:hh=0:=by
    cases hi with
    | none=>exact qC rfl
    | some _=>have:=rR rfl;omega
   have rS:(if mx.isSome then m else 0)=0:=by split<;>omega
   have DQ:l=0:=by omega
   refine⟨.slice none 0 0,?_,.ak⟩
   subst DQ Nw
   simp only[Instr.sliceAt,Sem.run_bind,run_underlying hu,Result.andThen_ok,Instr.slice,hr,rS,bB bk]
   simp
  ·cases h
 ·rename_i e b off n cap ex esz hu
  split at h
  ·rename_i sz l hh m bk hb
   split at h
   ·cases h
   ·rename_i bS
    have bS:sz=esz:=by simpa using bS
    subst bS
    split at h
    ·rename_i fO
     cases h
     cases hx with
     | slice hl hex cW hN hn=>
      rename_i cx off' cap'
      have pJ:cap≤cap':=by
       cases ex with
       | true=>exact Nat.le_of_eq (hex rfl).1.symm
       | false=>exact(cW rfl).1
      obtain⟨hr,Nv,Hw,yL,rR,xj,qC⟩:=gH (P:=P) pJ hb h1 h2 h3 true w
      obtain⟨M,hM⟩:∃M,M=(if mx.isSome then m else cap'):=⟨_,rfl⟩
      have afp:M≤cap':=by rw[hM];split<;>omega
      have hhm:hh≤m:=by
       cases oK:hi.isSome with
       | true=>exact rR oK
       | false=>
        cases lg:mx.isSome with
        | true=>exact xj lg
        | false=>rw[qC oK,yL lg];assumption
      have hmM:m≤M:=by rw[hM];split<;>omega
      obtain⟨k,rfl⟩:∃k,M=l+k:=⟨M-l,by omega⟩
      have s8:(ex||mx.isSome)=true→off'=cx.o+off:=by
       intro he
       cases ex with
       | true=>exact(hex rfl).2
       | false=>
        rcases(cW rfl).2 with h' | ⟨_,h'⟩
        ·exact h'
        ·simp only[Bool.false_or] at he
         cases mx with
         | none=>cases he
         | some _=>simp [h'] at fO
      refine⟨.slice (some (if l+k=l then⟨cx.c,off',none⟩ else⟨cx.c,off'+l*sz,none⟩)) (hh-l) (l+k-l),?_,?_⟩
      ·simp only[Instr.sliceAt,Sem.run_bind,run_underlying hu,Result.andThen_ok,Instr.slice,hr,bB bk,←hM,Sem.run_pure]
       split<;>simp [eJ]
      ·have e1:l+k-l=k:=by omega
       have hk:off'+(l+k)*sz≤cx.N:=Nat.le_trans (Nat.add_le_add_left (Nat.mul_le_mul_right sz afp) off') hN
       rw[Nat.add_mul] at hk
       have goal:∀(o2 vo:Nat),(o2=if l+k=l then off' else off'+l*sz)→(vo=if ((ex||mx.isSome)&&m==l)=true then off else off+l*sz)→
         au ρ (.slice b vo (hh-l) (m-l) (ex||mx.isSome) sz) (.slice (some ⟨cx.c,o2,none⟩) (hh-l) k):=by
        intro o2 vo Xn Te
        refine .slice hl (fun he=>?_) (fun he=>?_) ?_ (by omega)
        ·have hoe:=s8 he
         have hmk:m=l+k:=by
          rw[hM]
          cases lg:mx.isSome with
          | true=>simp
          | false=>
           rw[lg,Bool.or_false] at he
           have:=(hex he).1
           simp [yL lg,this]
         refine⟨by omega,?_⟩
         subst hmk
         rw[Xn,Te,he]
         by_cases lh:l+k=l
         ·rw[if_pos lh,if_pos (by simpa using lh)];exact hoe
         ·rw[if_neg lh,if_neg (by simpa using lh)];omega
        ·rw[Bool.or_eq_false_iff] at he
         have hmc:=yL he.2
         rw[he.2] at hM
         simp only[Bool.false_eq_true,if_false] at hM
         obtain⟨_,hw⟩:=cW he.1
         refine⟨by omega,?_⟩
         rw[Te,he.1,he.2]
         simp only[Bool.or_self,Bool.false_and,Bool.false_eq_true,if_false]
         by_cases lh:l+k=l
         ·exact .inr ⟨by omega,by omega⟩
         ·rcases hw with hw | hw
          ·rw[if_neg lh] at Xn
           exact .inl (by omega)
          ·exact .inr ⟨by omega,by omega⟩
        ·rw[Xn];split<;>omega
       rw[e1]
       have CZ:=goal _ _ rfl rfl
       by_cases lh:l+k=l
       ·rw[if_pos lh];rw[if_pos lh] at CZ;exact CZ
       ·rw[if_neg lh];rw[if_neg lh] at CZ;exact CZ
    ·cases h
  ·cases h
 ·rename_i e es esz ex hu
  split at h
  ·rename_i sz l hh m bk hb
   split at h
   ·cases h
   ·rename_i bS
    exact uF hu bk hb (by simpa using bS) (Option.some.inj h).symm hx h1 h2 h3 w
  ·cases h
 ·rename_i e n f esz ex nn hu
  split at h
  ·rename_i sz l hh m bk hb
   split at h
   ·cases h
   ·rename_i bS
    cases hx with
    | arr _ hx=>
     have bA:bounds (len (cn n f)) (len (cn n f)) lo hi mx=some (l,hh,m):=by rw[aP,bg];exact hb
     obtain⟨v',aE,aO⟩:=uF hu bk bA (by simpa using bS) rfl hx h1 h2 h3 w
     refine⟨v',aE,?_⟩
     have:=(Option.some.inj h).symm
     subst this
     refine .arr (fun h=>by cases h) ?_
     rw[aP,bg] at aO
     have qC:hh≤n:=by
      obtain⟨_,_,Hw,_⟩:=gH (P:=P) (Nat.le_refl n) hb h1 h2 h3 true w
      obtain⟨_,Nv,_,yL,rR,xj,qC⟩:=gH (P:=P) (Nat.le_refl n) hb h1 h2 h3 true w
      cases oK:hi.isSome with
      | true=>have:=rR oK;omega
      | false=>
       cases lg:mx.isSome with
       | true=>have:=xj lg;omega
       | false=>rw[qC oK];exact Nat.le_refl _
     have e:cU (c9 l (cn n f)) (hh-l)=cn (hh-l) fun i=>f (Nat.add l i):=by
      rw[dW,er]
      apply List.ext_getElem?
      intro i
      rw[List.getElem?_take]
      split
      ·rename_i eW
       rw[List.getElem?_drop,dB (by omega),dB eW];rfl
      ·rename_i eW
       rw[List.getElem?_eq_none (by rw[bg];omega)]
     rw[e] at aO
     exact aO
  ·cases h
 ·cases h
theorem Ah [Env] (hr:R ρ σ w) {t e:TypeId} {n:Nat} {x v:V} {lo hi mx:Option V} (hu:P.underlying t=some (.array n e)) (h:kI P σ n e lo hi mx x=some v) {x':Value} {vm eW vn:Option Value} (hx:au ρ x x')
  (h1:OV ρ lo vm) (h2:OV ρ hi eW) (h3:OV ρ mx vn):∃v',(Instr.sliceAt t x' vm eW vn).run P w=.ok v' w∧au ρ v v':=by
 unfold kI at h
 split at h
 ·rename_i b off
  cases hx with
  | ptr hl=>
   rename_i cx
   split at h
   ·rename_i sz l hh m N z t' p ro bk hb hk
    split at h
    ·rename_i hN
     cases h
     obtain⟨aE,Nv,Hw,yL,rR,xj,qC⟩:=gH (P:=P) (Nat.le_refl _) hb h1 h2 h3 false w
     have hM:(if mx.isSome then m else n)=m:=by
      cases lg:mx.isSome with
      | true=>simp
      | false=>simp [yL lg]
     rw[hM] at aE
     have hN':off+n*sz≤N:=Nat.le_of_ble_eq_true hN
     have hhm:hh≤m:=by
      cases oK:hi.isSome with
      | true=>exact rR oK
      | false=>
       cases lg:mx.isSome with
       | true=>exact xj lg
       | false=>rw[qC oK,yL lg];exact Nat.le_refl _
     have yM:=(hr.cells hk hl).2.1
     have Xo:m*sz≤n*sz:=Nat.mul_le_mul_right sz Hw
     refine⟨.slice (some (if m=l then⟨cx.c,cx.o+off,none⟩ else⟨cx.c,cx.o+off+l*sz,none⟩)) (hh-l) (m-l),?_,?_⟩
     ·simp only[Instr.sliceAt,Sem.run_bind,run_underlying hu,Result.andThen_ok,Instr.sureAddr,Sem.run_pure,aE,bB bk]
      split<;>simp [eJ]
     ·have key:∀o2 vo,o2=cx.o+vo→vo+(m-l)*sz≤N→au ρ (.slice b vo (hh-l) (m-l) true sz) (.slice (some ⟨cx.c,o2,none⟩) (hh-l) (m-l)):=fun o2 vo ho hle=>
       .slice hl (fun _=>⟨rfl,ho⟩) (fun h=>by cases h) (by omega) (by omega)
      by_cases uG:m=l
      ·rw[if_pos uG]
       have e1:Nat.beq m l=true:=by rw[uG];exact Nat.beq_refl l
       simp only[e1]
       exact key _ _ rfl (by rw[uG,Nat.sub_self,Nat.zero_mul];omega)
      ·rw[if_neg uG]
       have e1:Nat.beq m l=false:=by
        cases Xp:Nat.beq m l with
        | true=>exact absurd (Nat.eq_of_beq_eq_true Xp) uG
        | false=>rfl
       simp only[e1]
       refine key _ _ (Nat.add_assoc _ _ _) ?_
       show off+l*sz+(m-l)*sz≤N
       have:l*sz+(m-l)*sz≤m*sz:=by
        rw[←Nat.add_mul]
        exact Nat.mul_le_mul_right sz (by omega)
       omega
    ·cases h
   ·cases h
 ·cases h
theorem ay.bytes [Env]:∀(l:List UInt8),ay ρ (l.map fun c=>V.int .u8 c.toNat) (l.map fun c=>Value.int .u8 c.toNat)
 | []=>.nil
 | _::l=>.cons (.int _ _) (ay.bytes l)
theorem vp [Env] (hr:R ρ σ w) {sz n:Nat} {x:V} {new:List V} (h:jv σ sz x=some (n,new)) {x':Value} (hx:au ρ x x'):
  ∃fA:List Value,(Builtin.lenOf x').run P w=.ok n w∧(∀aL:World,aL.heap=w.heap→(Builtin.firstCells sz n x').run P aL=.ok ⟨fA⟩ aL)∧ay ρ new fA∧new.length=n*sz:=by
 unfold jv at h
 split at h
 ·cases h;cases hx
  exact⟨[],by simp [Builtin.lenOf],fun _ _=>by simp [Builtin.firstCells],.nil,by simp⟩
 ·rw[Option.map_eq_some_iff] at h
  obtain⟨vs,gA,he⟩:=h
  cases he
  cases hx with
  | slice hl hex cW hN hn=>
   rename_i b off cap ex esz cx off' cap'
   by_cases hz:off'=cx.o+off
   ·subst hz
    obtain⟨xs,aE,aO,hlen⟩:=hr.loadCells (P:=P) gA hl
    exact⟨xs,by simp [Builtin.lenOf],fun aL hw=>by simpa [Builtin.firstCells] using aE aL hw,aO,by rw[aO.length,hlen]⟩
   ·have hzero:n=0:=by
     cases ex with
     | true=>exact absurd (hex rfl).2 hz
     | false=>rcases(cW rfl).2 with h' | h'
              ·exact absurd h' hz
              ·exact h'.1
    subst hzero
    rw[Nat.zero_mul] at gA
    unfold St.cells at gA
    split at gA
    ·have h':some ([]:List V)=some _:=gA
     cases h'
     exact⟨[],by simp [Builtin.lenOf],fun _ _=>by simp [Builtin.firstCells,loadCells,loadCellsFrom],.nil,by simp⟩
    ·cases gA
 ·split at h
  ·rename_i hs
   cases h;cases hx
   subst hs
   rw[Dy,aP]
   refine⟨_,by simp [Builtin.lenOf];rfl,fun _ _=>?_,ay.bytes _,by simp⟩
   rename_i l _ _
   have:((⟨⟨l⟩⟩:ByteArray).extract 0 l.length)=⟨⟨l⟩⟩:=by rw[Lib.extract_eq];simp
   simp only[Builtin.firstCells,this,Sem.run_pure]
   simp
  ·cases h
 ·split at h
  ·rename_i hs
   cases h
   subst hs
   rw[aP]
   cases hx with
   | bX hu hx hi hc he=>
    rename_i c off cap xs
    have hl:(ax _).length=_:=cV hu
    have xh:=hx.length
    refine⟨xs,by simp [Builtin.lenOf],fun aL hw=>?_,hx,hl⟩
    have:=hr.rO (P:=P) hi aL hw
    rw[←xh,hl] at this
    simpa [Builtin.firstCells] using this
   | dP=>exact⟨[],by simp [Builtin.lenOf],fun _ _=>by simp [Builtin.firstCells],.nil,by simp [ax]⟩
   | dt he=>exact⟨[],by simp [Builtin.lenOf],fun _ _=>by simp [Builtin.firstCells,loadCells,loadCellsFrom],.nil,by simp [ax]⟩
  ·cases h
 ·cases h
theorem nextslicecap_le {need cap:Nat} (h:cap<need):Builtin.nextslicecap need cap≤2*need+192:=by
 have g:∀(k c:Nat),c≤2*need+192→Builtin.growBy need k c≤2*need+192:=by
  intro k
  induction k with
  | zero=>intro c hc;exact hc
  | succ k ih=>
   intro c hc
   unfold Builtin.growBy
   split
   ·exact hc
   ·exact ih _ (by omega)
 unfold Builtin.nextslicecap
 split
 ·omega
 ·split
  ·omega
  ·exact g 4 cap (by omega)
theorem UU:IntKind.i64.max=9223372036854775807:=by decide
theorem kf [Env] (hr:R ρ σ w) (cg:ρ id=none) {e:TypeId} {sz need:Nat} {old new:List V} {old' fA:List Value} (hold:ay ρ old old') (fW:ay ρ new fA)
  (hlen:old.length+new.length=need*sz) {zc:Array Value} (hz:zc.size=sz) (dI:Nat) (jc:need≤dI) (pl:Bool):
  let w':World:={w with drawn:=w.drawn+1}
  let xk:World:={w' with heap:=w'.heap.push (.cells ((⟨old'⟩:Array Value)++(⟨fA⟩:Array Value)++Builtin.zeroCells zc (dI-need)) e (0,0))}
  ∃l,aW (fun b=>b=id) ρ σ w (jb ρ id l) (grown σ id sz need (app old new) pl).2 xk∧au (jb ρ id l) (grown σ id sz need (app old new) pl).1 (.slice (some ⟨w.heap.size,0,none⟩) need dI):=by
 intro w' xk
 have hzl:(Builtin.zeroCells zc (dI-need)).size=(dI-need)*sz:=by simp [Builtin.zeroCells,hz]
 have Xq:=hold.length
 have DR:=fW.length
 have hN:((⟨old'⟩:Array Value)++(⟨fA⟩:Array Value)++Builtin.zeroCells zc (dI-need)).size=dI*sz:=by
  simp only[Array.size_append,hzl,List.size_toArray]
  rw[←Xq,←DR,hlen,←Nat.add_mul]
  congr 1;omega
 have lb:xk.heap[w.heap.size]? =some (.cells ((⟨old'⟩:Array Value)++(⟨fA⟩:Array Value)++Builtin.zeroCells zc (dI-need)) e (0,0)):=by
  show(w.heap.push _)[w.heap.size]? =_
  simp
 refine⟨⟨w.heap.size,0,dI*sz⟩,?_,?_⟩
 ·refine aW.alloc hr cg (w':=xk) rfl rfl rfl rfl (.cells ⟨e,?_⟩ ?_ (fun i v hi=>?_) (fun _ i _=>?_) (fun _ i=>?_))
  ·unfold World.shape?
   rw[lb]
   simp only[hN]
  ·simpa using Nat.mul_le_mul_right sz jc
  ·rw[fi] at hi
   rcases gx hi with ⟨_,h2,h3⟩ | ⟨_,h2⟩
   ·obtain⟨x,cS,aO⟩:=(hold.append fW).get _ h3
    refine⟨x,?_,aO.mono (hJ ρ _ cg)⟩
    have bE:i<(old'++fA).length:=by rw[List.length_append,←Xq,←DR];simpa using h2
    have afq:(old'++fA)[i]? =some x:=by simpa using cS
    simp only[World.cell?,lb,Nat.zero_add]
    simp only[Option.isSome_none,Bool.false_eq_true,if_false]
    rw[Array.getElem?_append_left (by simpa using bE)]
    simpa using afq
   ·unfold cellOf at h2
    split at h2
    ·rw[Trie.fw] at h2;simp [ea] at h2
    ·cases h2
  ·simp [World.frozen?,lb]
  ·simp [World.frozen?,lb]
 ·exact .slice (l:=⟨w.heap.size,0,dI*sz⟩) (fV _ _ _) (by simp) (fun _=>⟨jc,.inl rfl⟩) (by simp) (Nat.le_refl _)
theorem Ai [Env] (hr:R ρ σ w) {b off n cap k sz:Nat} {ex:Bool} {old:List V} (h:σ.cells b off (n*sz)=some old) {cx:Loc} {off' cap':Nat} (hl:ρ b=some cx)
  (hex:ex=true→cap'=cap∧off'=cx.o+off) (cW:ex=false→cap≤cap'∧(off'=cx.o+off∨(n=0∧cap=0))):
  ∃old':List Value,(∀aL:World,aL.heap=w.heap→(Builtin.firstCells sz n (.slice (some ⟨cx.c,off',none⟩) n k)).run P aL=.ok ⟨old'⟩ aL)∧ay ρ old old'∧old.length=n*sz:=by
 by_cases hz:off'=cx.o+off
 ·subst hz
  obtain⟨xs,aE,aO,hlen⟩:=hr.loadCells (P:=P) h hl
  exact⟨xs,fun aL hw=>by simpa [Builtin.firstCells] using aE aL hw,aO,by rw[aO.length,hlen]⟩
 ·have hzero:n=0:=by
   cases ex with
   | true=>exact absurd (hex rfl).2 hz
   | false=>
    rcases(cW rfl).2 with h' | h'
    ·exact absurd h' hz
    ·exact h'.1
  subst hzero
  rw[Nat.zero_mul] at h
  unfold St.cells at h
  split at h
  ·have h':some ([]:List V)=some _:=h
   cases h'
   exact⟨[],fun _ _=>by simp [Builtin.firstCells,loadCells,loadCellsFrom],.nil,by simp⟩
  ·cases h
theorem jd [Env] {tys:Array TypeId} {ty t t' e:TypeId} {i:TypeInfo} {d:TypeDesc} {s x:Value} {base:Option Addr} {eK iN n sz:Nat} {old new:List Value} {zv:Value}
  (ht:tys[0]? =some t) (fj:tys[1]? =some t') (hu:P.underlying t=some (.slice e)) (hd:P.underlying t'=some d) (jq:∀k,d≠.int k) (bk:bV P e=some sz) (hi:P.info? e=some i)
  (hs:s=.slice base eK iN) (hlen:(Builtin.lenOf x).run P w=.ok n w) (hz:∀w,(zeroValue e).run P w=.ok zv w) (pH:¬eK+n≤iN) (pK:i.bytes≠0) (ek:(eK+n)*i.bytes≤1099511627776)
  (hold:∀aL:World,aL.heap=w.heap→(Builtin.firstCells sz eK s).run P aL=.ok ⟨old⟩ aL) (fW:∀aL:World,aL.heap=w.heap→(Builtin.firstCells sz n x).run P aL=.ok ⟨new⟩ aL):
  ∃dI,eK+n≤dI∧(Builtin.append_ tys ty #[s,x]).run P w=
   .ok (.slice (some ⟨w.heap.size,0,none⟩) (eK+n) dI) {w with drawn:=w.drawn+1,heap:=w.heap.push (.cells ((⟨old⟩:Array Value)++(⟨new⟩:Array Value)++Builtin.zeroCells zv.cells (dI-(eK+n))) e (0,0))}:=by
 have DS:1≤i.bytes:=by omega
 have abY:eK+n≤1099511627776:=Nat.le_trans (Nat.le_mul_of_pos_right _ DS) ek
 have abZ:Builtin.nextslicecap (eK+n) iN*i.bytes≤2^48:=by
  have h1:=nextslicecap_le (need:=eK+n) (cap:=iN) (by omega)
  have h2:Builtin.nextslicecap (eK+n) iN*i.bytes≤(2*(eK+n)+192)*i.bytes:=Nat.mul_le_mul_right _ h1
  have h3:(2*(eK+n)+192)*i.bytes=2*((eK+n)*i.bytes)+192*i.bytes:=by rw[Nat.add_mul,Nat.mul_assoc]
  have h4:i.bytes≤1099511627776:=Nat.le_trans (Nat.le_mul_of_pos_left _ (by omega)) ek
  omega
 have Pt:eK+n≤(Question.appendCap (eK+n) iN e).cut (w.tape w.drawn (.appendCap (eK+n) iN e)):=by simp [Question.cut]
 refine⟨(Question.appendCap (eK+n) iN e).cut (w.tape w.drawn (.appendCap (eK+n) iN e)),Pt,?_⟩
 have hm:(match d with | .int _=>true | _=>false)=false:=by cases d<;>first | rfl | exact absurd rfl (jq _)
 subst hs
 have ho:=hold {w with drawn:=w.drawn+1} rfl
 have hn:=fW {w with drawn:=w.drawn+1} rfl
 have gV:(#[Value.slice base eK iN,x]:Array Value)[0]? =some (Value.slice base eK iN):=rfl
 have pF:(#[Value.slice base eK iN,x]:Array Value)[1]? =some x:=rfl
 simp only[Builtin.append_,ht,fj,gV,pF,Sem.run_bind,run_underlying hu,run_underlying hd,Result.andThen_ok,bB bk,Sem.run_pure,Bool.false_eq_true,if_false,hlen]
 have Xr:¬(((eK+n:Nat):Int)>IntKind.i64.max∧(False∨i.bytes=0)):=by simp [pK]
 have Xs:¬(Builtin.nextslicecap (eK+n) iN*i.bytes>2^48):=by omega
 have rT:(Question.appendCap (eK+n) iN e).forced=false:=rfl
 rw[if_neg pH]
 simp only[Sem.run_bind,run_typeInfo hi,Result.andThen_ok,if_neg Xr,if_neg Xs,run_choose,rT,Bool.false_eq_true,if_false,run_askRoom,ho,hn,Bool.not_false,if_true,hz,Sem.run_pure]
 rfl
theorem gW [Env] {tys:Array TypeId} {ty t t' e:TypeId} {d:TypeDesc} {x:Value} {base:Option Addr} {eK iN n sz:Nat} {new:List Value} {w':World}
  (ht:tys[0]? =some t) (fj:tys[1]? =some t') (hu:P.underlying t=some (.slice e)) (hd:P.underlying t'=some d) (jq:∀k,d≠.int k) (bk:bV P e=some sz)
  (hlen:(Builtin.lenOf x).run P w=.ok n w) (xV:eK+n≤iN) (fW:(Builtin.firstCells sz n x).run P w=.ok ⟨new⟩ w)
  (aF:match base with | some a=>(storeCells (a.add (eK*sz)) new).run P w=.ok () w' | none=>w'=w):
  (Builtin.append_ tys ty #[.slice base eK iN,x]).run P w=.ok (.slice base (eK+n) iN) w':=by
 have hm:(match d with | .int _=>true | _=>false)=false:=by cases d<;>first | rfl | exact absurd rfl (jq _)
 have gV:(#[Value.slice base eK iN,x]:Array Value)[0]? =some (Value.slice base eK iN):=rfl
 have pF:(#[Value.slice base eK iN,x]:Array Value)[1]? =some x:=rfl
 simp only[Builtin.append_,ht,fj,gV,pF,Sem.run_bind,run_underlying hu,run_underlying hd,Result.andThen_ok,bB bk,Sem.run_pure,Bool.false_eq_true,if_false,hlen]
 rw[if_pos xV]
 cases base with
 | none=>
  subst aF
  simp only[Sem.run_bind,Bool.not_false,if_true,fW,Result.andThen_ok,Sem.run_pure]
 | some a=>
  dsimp only at aF
  simp only[Sem.run_bind,Bool.not_false,if_true,fW,Result.andThen_ok,Sem.run_pure,aF]
theorem GU {t:TypeId} (h:intType P t=false):∃d,P.underlying t=some d∧∀k,d≠.int k:=by
 unfold intType at h
 split at h
 ·cases h
 ·rename_i d hn hu
  exact⟨d,hu,fun k e=>hn k e⟩
 ·cases h
theorem GV [Env] (hr:R ρ σ w) (cg:ρ id=none) {b off m cap' n sz:Nat} {old new:List V} {fA:List Value} {pl:Bool} {cx:Loc} {off':Nat} (hold:σ.cells b off (m*sz)=some old) (hl:ρ b=some cx)
  (hz:off'=cx.o+off∨m=0) (uE:pw σ b=some pl) (hN:off'+cap'*sz≤cx.N) (xV:m+n≤cap') (jD:ay ρ new fA) (oI:new.all V.scalar=true) (nP:new.length=n*sz):
  ∃w',(storeCells ((⟨cx.c,off',none⟩:Addr).add (m*sz)) fA).run P w=.ok () w'∧
   aW (fun b=>b=id) ρ σ w (jb ρ id ⟨cx.c,off',cx.N⟩) (grown (σ.kill b) id sz (m+n) (app old new) pl).2 w':=by
 unfold pw at uE
 split at uE
 ·rename_i nb zb tb pb hb
  cases uE
  obtain⟨⟨ty,hs⟩,Tf,hv,hf,hp⟩:=hr.cells hb hl
  have Xo:(m+n)*sz≤cap'*sz:=Nat.mul_le_mul_right sz xV
  have Pu:(m+n)*sz=m*sz+n*sz:=Nat.add_mul ..
  have hlen:=jD.length
  have lH:∀j,j<fA.length→(w.cell? ⟨cx.c,off'+m*sz+j,none⟩).isSome=true:=fun j hj=>lL hs (by omega)
  have UW:old.length=m*sz∧∀i v,old[i]? =some v→∃x,w.cell? ⟨cx.c,off'+i,none⟩=some x∧au ρ v x:=by
   unfold St.cells at hold
   rw[hb] at hold
   obtain⟨h1,h2⟩:=gR _ _ hold
   refine⟨h1,fun i v hi=>?_⟩
   obtain⟨x,hx,aO⟩:=hv _ _ (h2 i v hi)
   refine⟨x,?_,aO⟩
   rcases hz with hz | hz
   ·rw[hz,Nat.add_assoc];exact hx
   ·subst hz
    rw[Nat.zero_mul] at h1
    have:old=[]:=List.eq_nil_of_length_eq_zero h1
    subst this
    simp at hi
  obtain⟨Xq,hoc⟩:=UW
  refine⟨w.setCells cx.c (off'+m*sz) fA,?_,?_⟩
  ·rw[eJ]
   have:=run_storeCells_cells (P:=P) cx.c (off'+m*sz) fA 0 w (by simpa using lH) (fun j hj=>by simpa using hf rfl (off'+m*sz+j) (by omega)) (jD.rJ oI)
   simpa using this
  ·obtain⟨r1,r2,r3⟩:=lG cx.c fA (off'+m*sz) w
   refine aW.abW (l:=⟨cx.c,off',cx.N⟩) hr cg hb rfl hl rfl (lF _ _ _ _) (fun c hc=>hZ _ _ _ _ _ hc) r1 r2 r3 ?_
   refine .cells ⟨ty,by rw[kJ];exact hs⟩ (by dsimp only;omega) (fun i v hi=>?_) (fun iy i hi=>by rw[World.frozen?_setCells];exact hf rfl i hi) (fun rM i=>by rw[World.frozen?_setCells];exact hp rM i)
   rw[fi] at hi
   rcases gx hi with ⟨_,h2,h3⟩ | ⟨_,h2⟩
   ·rw[Nat.sub_zero] at h3
    by_cases hio:i<old.length
    ·rw[List.getElem?_append_left hio] at h3
     obtain⟨x,hx,aO⟩:=hoc i v h3
     refine⟨x,?_,aO.mono (hJ ρ _ cg)⟩
     rw[World.cell?_setCells_out cx.c fA (off'+m*sz) w _ (fun _ _=>by dsimp only;omega)]
     exact hx
    ·rw[List.getElem?_append_right (by omega)] at h3
     obtain⟨x,hx,aO⟩:=jD.get _ h3
     refine⟨x,?_,aO.mono (hJ ρ _ cg)⟩
     have hj:i-old.length<fA.length:=by
      rw[←hlen]
      exact(List.getElem?_eq_some_iff.1 h3).1
     have:=World.cell?_setCells_in cx.c fA (off'+m*sz) w lH (i-old.length) hj
     rw[show off'+m*sz+(i-old.length)=off'+i by omega] at this
     rw[this]
     rw[List.getElem?_eq_getElem hj] at hx
     exact hx
   ·unfold cellOf at h2
    split at h2
    ·rw[Trie.fw] at h2;simp [ea] at h2
    ·cases h2
 ·cases uE
theorem iA [Env] (hr:R ρ σ w) (cg:ρ id=none) {tys:Array TypeId} {ty t t':TypeId} (ht:tys[0]? =some t) (fj:tys[1]? =some t') (oL:intType P t'=false) {s x v:V} {σ':St}
  (h:jx P σ id t s x=some (v,σ')) {s' x':Value} (hs:au ρ s s') (hx:au ρ x x'):
  ∃ρ' v' w',(Builtin.append_ tys ty #[s',x']).run P w=.ok v' w'∧au ρ' v v'∧aW (fun b=>b=id) ρ σ w ρ' σ' w':=by
 obtain⟨d,hd,jq⟩:=GU oL
 unfold jx at h
 split at h
 ·rename_i e hu
  split at h
  ·rename_i sz dy z bk pK hz
   split at h
   ·cases h
   ·rename_i fO
    rw[not_or,not_or] at fO
    obtain⟨c1,c2,c3⟩:=fO
    rw[aP,ne_eq,Decidable.not_not] at c3
    obtain⟨i,hi,rfl⟩:=s6 pK
    obtain⟨zv,gC,oa⟩:=gU (P:=P) hz ρ
    have oM:zv.cells.size=sz:=by rw[←c3,oa.cells.length];simp
    split at h
    ·cases h
    ·rename_i n new fW
     obtain⟨fA,hlen,iB,jD,nP⟩:=vp (P:=P) hr fW hx
     unfold g9 at h
     split at h
     ·split at h
      ·rename_i kg
       cases h;cases hs
       subst kg
       exact⟨ρ,_,w,gW ht fj hu hd jq bk hlen (by omega) (iB w rfl) (base:=none) rfl,.ak,aW.refl hr⟩
      ·rename_i kg
       split at h
       ·rename_i ek
        cases hs
        obtain⟨dI,jc,aE⟩:=jd (tys:=tys) (ty:=ty) (w:=w) (n:=n) (x:=x') (old:=[]) (new:=fA) ht fj hu hd jq bk hi (s:=.slice none 0 0) rfl hlen gC (by omega) c2 (by simpa using ek)
         (fun aL _=>by simp [Builtin.firstCells]) iB
        rw[Nat.zero_add] at jc aE
        obtain⟨l,gm,hv⟩:=kf (e:=e) hr cg (old:=[]) (old':=[]) .nil jD (by simpa using nP) oM dI jc true
        have hh:some (grown σ id sz n new true)=some (v,σ'):=h
        cases hh
        exact⟨_,_,_,aE,hv,gm⟩
       ·cases h
     ·rename_i b off m cap ex esz
      cases hs with
      | slice hl hex cW hN hn=>
       rename_i cx off' cap'
       have pJ:cap≤cap':=by
        cases ex with
        | true=>exact Nat.le_of_eq (hex rfl).1.symm
        | false=>exact(cW rfl).1
       split at h
       ·cases h
       ·rename_i bS
        have bS:sz=esz:=by simpa using bS
        subst bS
        split at h
        ·rename_i kg
         subst kg
         cases h
         have s9:fA=[]:=by
          have:=jD.length
          rw[nP,Nat.zero_mul] at this
          exact List.eq_nil_of_length_eq_zero this.symm
         subst s9
         exact⟨ρ,_,w,gW ht fj hu hd jq bk hlen (by omega) (iB w rfl) (base:=some _) rfl,.slice hl hex cW hN (by omega),aW.refl hr⟩
        split at h
        ·rename_i xV
         rw[Option.map_eq_some_iff] at h
         obtain⟨aI,aF,he⟩:=h
         cases he
         obtain⟨w',aE,gm⟩:=hr.store (P:=P) (ids:=fun b=>b=id) aF hl jD
         by_cases hz:off'=cx.o+off
         ·subst hz
          refine⟨ρ,_,w',gW ht fj hu hd jq bk hlen (by omega) (iB w rfl) (base:=some _) ?_,.slice hl hex (fun he=>?_) hN (by omega),gm⟩
          ·dsimp only
           rw[eJ,Nat.add_assoc]
           exact aE
          ·exact⟨pJ,.inl rfl⟩
         ·have hzero:m=0∧cap=0:=by
           cases ex with
           | true=>exact absurd (hex rfl).2 hz
           | false=>
            rcases(cW rfl).2 with h' | h'
            ·exact absurd h' hz
            ·exact h'
          have kg:n=0:=by omega
          subst kg
          have s9:fA=[]:=by
           have:=jD.length
           rw[nP,Nat.zero_mul] at this
           exact List.eq_nil_of_length_eq_zero this.symm
          subst s9
          have hw:w'=w:=by
           have h1:(storeCells (⟨cx.c,cx.o+(off+m*sz),none⟩:Addr) []).run P w=.ok () w:=rfl
           rw[h1] at aE
           injection aE with _ h2
           exact h2.symm
          subst hw
          exact⟨ρ,_,w',gW ht fj hu hd jq bk hlen (by omega) (iB w' rfl) (base:=some _) rfl,.slice hl hex (fun he=>⟨pJ,.inr ⟨by omega,hzero.2⟩⟩) hN (by omega),gm⟩
        ·rename_i xV
         split at h
         ·rename_i ek
          rw[Option.bind_eq_some_iff] at h
          obtain⟨old,hold,h⟩:=h
          obtain⟨old',Tg,Th,ab0⟩:=Ai (P:=P) (k:=cap') hr hold hl hex cW
          have Pu:old.length+new.length=(m+n)*sz:=by rw[ab0,nP,Nat.add_mul]
          unfold oQ at h
          split at h
          ·have hce:=(hex rfl).1
           obtain⟨dI,jc,aE⟩:=jd (tys:=tys) (ty:=ty) (w:=w) (n:=n) (x:=x') (old:=old') (new:=fA) ht fj hu hd jq bk hi rfl hlen gC (by omega) c2 ek Tg iB
           obtain⟨l,gm,hv⟩:=kf (e:=e) hr cg Th jD Pu oM dI jc true
           have hh:some (grown σ id sz (m+n) (app old new) true)=some (v,σ'):=h
           cases hh
           exact⟨_,_,_,aE,hv,gm⟩
          ·split at h
           ·rename_i pl uE oI
            rw[pr] at oI
            have hh:some (grown (σ.kill b) id sz (m+n) (app old new) pl)=some (v,σ'):=h
            cases hh
            by_cases KM:m+n≤cap'
            ·have hz:off'=cx.o+off∨m=0:=(cW rfl).2.imp (fun h=>h) And.left
             obtain⟨w',aF,gm⟩:=GV (P:=P) hr cg hold hl hz uE hN KM jD oI nP
             exact⟨_,_,w',gW ht fj hu hd jq bk hlen KM (iB w rfl) (base:=some _) aF,
              .slice (l:=⟨cx.c,off',cx.N⟩) (fV _ _ _) (by simp) (fun _=>⟨KM,.inl rfl⟩) (by simpa using hN) (Nat.le_refl _),gm⟩
            ·obtain⟨dI,jc,aE⟩:=jd (tys:=tys) (ty:=ty) (w:=w) (n:=n) (x:=x') (old:=old') (new:=fA) ht fj hu hd jq bk hi rfl hlen gC KM c2 ek Tg iB
             have hk:=aW.kill (ids:=fun b=>b=id) hr b
             obtain⟨l,gm,hv⟩:=kf (e:=e) hk.r cg Th jD Pu oM dI jc pl
             exact⟨_,_,_,aE,hv,hk.trans gm⟩
           ·cases h
         ·cases h
     ·rename_i es esz
      split at h
      ·cases h
      ·rename_i bS
       have bS:sz=esz:=by simpa using bS
       subst bS
       split at h
       ·rename_i kg
        subst kg
        cases h
        have s9:fA=[]:=by
         have:=jD.length
         rw[nP,Nat.zero_mul] at this
         exact List.eq_nil_of_length_eq_zero this.symm
        subst s9
        cases hs with
        | bX oJ cS eW fu kh=>exact⟨ρ,_,w,gW ht fj hu hd jq bk hlen (by omega) (iB w rfl) (base:=some _) rfl,.bX oJ cS eW (by omega) kh,aW.refl hr⟩
        | dP=>exact⟨ρ,_,w,gW ht fj hu hd jq bk hlen (by omega) (iB w rfl) (base:=none) rfl,.dP,aW.refl hr⟩
        | dt kh=>exact⟨ρ,_,w,gW ht fj hu hd jq bk hlen (by omega) (iB w rfl) (base:=some _) rfl,.dt kh,aW.refl hr⟩
       ·rename_i kg
        split at h
        ·rename_i ek
         rw[aP] at h ek
         have hh:some (grown σ id sz (es.length+n) (app (ax es) new) true)=some (v,σ'):=h
         cases hh
         cases hs with
         | bX oJ cS eW fu kh=>
          rename_i c off cap xs
          have hce:=kh rfl
          have hl:=cV oJ
          have xh:=cS.length
          obtain⟨dI,jc,aE⟩:=jd (tys:=tys) (ty:=ty) (w:=w) (n:=n) (x:=x') (old:=xs) (new:=fA) (s:=.slice (some ⟨c,off,none⟩) es.length cap) ht fj hu hd jq bk hi rfl hlen gC (by omega) c2 ek
           (fun aL hw=>by
            have:=hr.rO (P:=P) eW aL hw
            rw[←xh,hl] at this
            simpa [Builtin.firstCells] using this) iB
          obtain⟨l,gm,hv⟩:=kf (e:=e) hr cg cS jD (need:=es.length+n) (by rw[hl,nP,Nat.add_mul]) oM dI jc true
          exact⟨_,_,_,aE,hv,gm⟩
         | dP=>
          obtain⟨dI,jc,aE⟩:=jd (tys:=tys) (ty:=ty) (w:=w) (n:=n) (x:=x') (old:=[]) (new:=fA) (s:=.slice none 0 0) ht fj hu hd jq bk hi rfl hlen gC (by omega) c2 ek
           (fun aL hw=>by simp [Builtin.firstCells]) iB
          obtain⟨l,gm,hv⟩:=kf (e:=e) hr cg (old:=ax []) (old':=[]) .nil jD (need:=0+n) (by simpa [ax] using nP) oM dI jc true
          exact⟨_,_,_,aE,hv,gm⟩
         | dt kh=>
          rename_i cap a
          have h0:=kh rfl
          subst h0
          obtain⟨dI,jc,aE⟩:=jd (tys:=tys) (ty:=ty) (w:=w) (n:=n) (x:=x') (old:=[]) (new:=fA) (s:=.slice (some a) 0 0) ht fj hu hd jq bk hi rfl hlen gC (by omega) c2 ek
           (fun aL hw=>by simp [Builtin.firstCells,loadCells,loadCellsFrom]) iB
          obtain⟨l,gm,hv⟩:=kf (e:=e) hr cg (old:=ax []) (old':=[]) .nil jD (need:=0+n) (by simpa [ax] using nP) oM dI jc true
          exact⟨_,_,_,aE,hv,gm⟩
        ·cases h
     ·cases h
  ·cases h
 ·cases h
theorem il {es:List V} {esz:Nat} (h:∀v∈es,v.cells.length=esz) {i:Nat} {u:V} (hi:es[i]? =some u) {k:Nat} (hk:k<esz):(ax es)[i*esz+k]? =u.cells[k]? :=by
 induction es generalizing i with
 | nil=>simp at hi
 | cons v es ih=>
  have hv:=h v List.mem_cons_self
  rw[ca]
  cases i with
  | zero=>
   simp at hi;subst hi
   rw[Nat.zero_mul,Nat.zero_add,List.getElem?_append_left (by omega)]
  | succ i=>
   rw[List.getElem?_append_right (by rw[hv,Nat.add_mul];omega),hv,show(i+1)*esz+k-esz=i*esz+k by rw[Nat.add_mul];omega]
   exact ih (fun u hu=>h u (List.mem_cons_of_mem _ hu)) (by simpa using hi)
theorem au.Nx [Env] {m:Nat} {g:Nat→V} {esz:Nat} {ex:Bool} {x:Value} (h:au ρ (.bX (cn m g) esz ex) x):∀i,i<m→(g i).cells.length=esz:=by
 intro i hi
 have bS:cn m g≠[]:=fun e=>by have:=bg m g;rw[e] at this;simp at this;omega
 generalize he:cn m g=es at h
 cases h with
 | bX hu=>exact hu (g i) (by rw[←he];exact List.mem_of_getElem? (dB hi))
 | dP=>exact absurd he bS
 | dt=>exact absurd he bS
theorem vq [Env] {ρ':aA} {w':World} {sz m:Nat} {g:Nat→V} {cs:List V} (dH:cs=ax (cn m g)) (h:aW (fun b=>b=id) ρ σ w ρ' (grown σ id sz m cs true).2 w') (hu:∀i,i<m→(g i).cells.length=sz):
  aW (fun b=>b=id) ρ σ w ρ' (σ.new id (.row m g sz true)) w':=by
 subst dH
 have cZ:∀v∈cn m g,v.cells.length=sz:=by
  intro v hv
  obtain⟨i,hi,rfl⟩:=List.getElem_of_mem hv
  rw[bg] at hi
  have:=dB (f:=g) hi
  rw[List.getElem?_eq_getElem (by rw[bg];exact hi)] at this
  rw[Option.some.inj this];exact hu i hi
 refine h.wJ (b:=id) (n:=m) (f:=g) (esz:=sz) (z:=[]) (t:=ai (ax (cn m g)) .leaf 0) (p:=true) (by show(σ.new id _).heap.get id=_;rw[fU,Trie.b9,if_pos rfl]) hu (fun i hi k v hk=>?_) (fun b'=>?_) (by show(σ.new id _).next=(σ.new id _).next;rw[lK,lK])
 ·have Ny:k<sz:=by rw[←hu i hi];exact(List.getElem?_eq_some_iff.1 hk).1
  have bE:i*sz+k<m*sz:=by have:=lM hi (Nat.succ_le_of_lt Ny);omega
  unfold cellOf
  have hb:Nat.blt (i*sz+k) (m*sz)=true:=by rw[Nat.blt_eq];exact bE
  rw[hb]
  dsimp only
  have Xt:(ax (cn m g)).length=m*sz:=by rw[cV cZ,bg]
  rw[mG,if_pos ⟨Nat.zero_le _,by rw[Xt];omega⟩,Nat.sub_zero,il cZ (dB hi) Ny,hk]
 ·show(σ.new id _).heap.get b'=if b'=id then _ else(σ.new id _).heap.get b'
  rw[fU,fU,Trie.b9,Trie.b9]
  by_cases e:b'=id
  ·rw[if_pos e,if_pos e]
  ·rw[if_neg e,if_neg e,if_neg e]
theorem mJ [Env] {ρ':aA} {m sz:Nat} {v':Value} (hm:m≠0) (h:au ρ' (.slice id 0 m m false sz) v'):au ρ' (.own id m sz) v':=by
 cases h with
 | slice hl hex cW hN hn=>
  obtain⟨h1,h2⟩:=cW rfl
  rcases h2 with h2 | h2
  ·subst h2;exact .own hl h1 (by simpa using hN)
  ·exact absurd h2.1 hm
theorem CL [Env] (hr:R ρ σ w) (cg:ρ id=none) {tys:Array TypeId} {ty t t':TypeId} (ht:tys[0]? =some t) (fj:tys[1]? =some t') (oL:intType P t'=false) {m esz:Nat} {g:Nat→V} {ex nn:Bool} {s v:V} {σ':St}
  (h:n0 P σ id t m g esz s=some (v,σ')) {s' x':Value} (hs:au ρ s s') (hx:au ρ (.arr m g esz ex nn) x'):
  ∃ρ' v' w',(Builtin.append_ tys ty #[s',x']).run P w=.ok v' w'∧au ρ' v v'∧aW (fun b=>b=id) ρ σ w ρ' σ' w':=by
 cases hx with
 | arr _ hx=>
 have hu:=au.Nx hx
 unfold n0 at h
 split at h
 ·rename_i e Xu
  split at h
  ·rename_i sz dy z bk pK hz
   split at h
   ·cases h
   ·rename_i fO
    rw[not_or,not_or,not_or] at fO
    obtain⟨c1,c2,c3,c4⟩:=fO
    rw[ne_eq,Decidable.not_not] at c4
    subst c4
    have base:∀KN,jx P σ id t KN (.bX (cn m g) sz ex)=g9 σ id sz dy m (ax (cn m g)) KN:=by
     intro KN
     unfold jx
     rw[Xu]
     dsimp only
     rw[bk,pK,hz]
     dsimp only
     rw[if_neg (by rw[not_or,not_or];exact⟨c1,c2,c3⟩)]
     unfold jv
     dsimp only
     rw[if_pos rfl,aP,bg]
    unfold jl at h
    split at h
    ·split at h
     ·rename_i hm
      refine iA hr cg ht fj oL (x:=.bX (cn m g) sz ex) ?_ hs hx
      rw[base];unfold g9;dsimp only;rw[if_pos hm];exact h
     ·rename_i hm
      split at h
      ·rename_i ek
       cases h
       obtain⟨ρ',v',w',aE,hv,aF⟩:=iA hr cg ht fj oL (x:=.bX (cn m g) sz ex) (s:=.ak) (v:=(grown σ id sz m (ax (cn m g)) true).1) (σ':=(grown σ id sz m (ax (cn m g)) true).2) (by
        rw[base];unfold g9;dsimp only;rw[if_neg hm,if_pos ek]) hs hx
       exact⟨ρ',v',w',aE,mJ hm hv,vq rfl aF hu⟩
      ·cases h
    ·rename_i n f tc nn
     split at h
     ·cases h
     ·rename_i hn
      rw[not_or,ne_eq,Decidable.not_not,ne_eq,Decidable.not_not] at hn
      obtain⟨rfl,rfl⟩:=hn
      cases hs with
      | arr _ hs=>
      have h0:cn 0 f=[]:=rfl
      rw[h0] at hs
      split at h
      ·rename_i hm
       cases h
       obtain⟨ρ',v',w',aE,hv,aF⟩:=iA hr cg ht fj oL (x:=.bX (cn m g) sz ex) (s:=.bX [] sz true) (v:=.bX [] sz true) (σ':=σ) (by
        rw[base];unfold g9;dsimp only;rw[if_neg (by simp),if_pos hm]) hs hx
       exact⟨ρ',v',w',aE,.arr (fun h=>by cases h) hv,aF⟩
      ·rename_i hm
       split at h
       ·rename_i ek
        cases h
        obtain⟨ρ',v',w',aE,hv,aF⟩:=iA hr cg ht fj oL (x:=.bX (cn m g) sz ex) (s:=.bX [] sz true) (v:=(grown σ id sz m (ax (cn m g)) true).1) (σ':=(grown σ id sz m (ax (cn m g)) true).2) (by
         rw[base];unfold g9;dsimp only
         rw[if_neg (by simp),if_neg hm,show len ([]:List V)+m=m from Nat.zero_add m,if_pos ek];rfl) hs hx
        exact⟨ρ',v',w',aE,mJ hm hv,vq rfl aF hu⟩
       ·cases h
    ·rename_i b off n cap tc
     split at h
     case h_2=>cases h
     rename_i dH
     split at h
     ·cases h
     ·rename_i hn
      rw[not_or,not_or,ne_eq,Decidable.not_not,ne_eq,Decidable.not_not,ne_eq,Decidable.not_not] at hn
      obtain⟨rfl,rfl,rfl⟩:=hn
      split at h
      ·rename_i hm
       cases h
       exact iA hr cg ht fj oL (x:=.bX (cn m g) sz ex) (s:=.slice b off 0 0 true sz) (v:=.slice b off 0 0 true sz) (σ':=σ) (by
        rw[base];unfold g9;dsimp only;rw[if_neg (by simp),if_pos hm]) hs hx
      ·rename_i hm
       split at h
       ·rename_i ek
        cases h
        obtain⟨ρ',v',w',aE,hv,aF⟩:=iA hr cg ht fj oL (x:=.bX (cn m g) sz ex) (s:=.slice b off 0 0 true sz) (v:=(grown σ id sz m (ax (cn m g)) true).1) (σ':=(grown σ id sz m (ax (cn m g)) true).2) (by
         rw[base];unfold g9;dsimp only
         rw[if_neg (by simp),if_neg hm,if_neg (by omega),Nat.zero_add,if_pos ek,Nat.zero_mul,dH];rfl) hs hx
        exact⟨ρ',v',w',aE,mJ hm hv,vq rfl aF hu⟩
       ·cases h
    ·cases h
  ·cases h
 ·cases h
theorem gI {n:Nat} {g:Nat→V} {esz:Nat} (hu:∀i,i<n→(g i).cells.length=esz):∀v∈cn n g,v.cells.length=esz:=by
 intro v hv
 obtain⟨i,hi,rfl⟩:=List.getElem_of_mem hv
 rw[bg] at hi
 have:=dB (f:=g) hi
 rw[List.getElem?_eq_getElem (by rw[bg];exact hi)] at this
 rw[Option.some.inj this];exact hu i hi
theorem Xv [Env] {l:Loc} {n:Nat} {f:Nat→V} {esz:Nat} {p:Bool} (h:fN ρ w l (.row n f esz p)) {k:Nat} {v:V} (hk:(ax (cn n f))[k]? =some v):∃x,w.cell? ⟨l.c,l.o+k,none⟩=some x∧au ρ v x:=by
 cases h with
 | row hs hn hu hv hf hp=>
  have cZ:=gI hu
  have bE:k<n*esz:=by
   have:=(List.getElem?_eq_some_iff.1 hk).1
   rw[cV cZ,bg] at this;exact this
  have h0:0<esz:=by
   rcases Nat.eq_zero_or_pos esz with h | h
   ·subst h;simp at bE
   ·exact h
  have hi:k/esz<n:=(Nat.div_lt_iff_lt_mul h0).2 bE
  have eV:k%esz<esz:=Nat.mod_lt _ h0
  have e:k/esz*esz+k%esz=k:=by rw[Nat.mul_comm];exact Nat.div_add_mod k esz
  have hg:=il cZ (dB (f:=f) hi) eV
  rw[e,hk] at hg
  obtain⟨x,hx,hr⟩:=hv _ hi _ v hg.symm
  rw[e] at hx
  exact⟨x,hx,hr⟩
theorem aW.Hz [Env] {ids:Nat→Prop} {bT:aA} {σ₀:St} {fx:World} (h:aW ids bT σ₀ fx ρ σ w) {b n esz:Nat} {f:Nat→V} {p:Bool} (hb:σ.heap.get b=some (.row n f esz p))
  {σ':St} (Nm:∀b',σ'.heap.get b'=if b'=b then some (.cells (n*esz) [] (ai (ax (cn n f)) .leaf 0) p false) else σ.heap.get b') (hn:σ'.next=σ.next):aW ids bT σ₀ fx ρ σ' w:=by
 have hd:∀b' k,σ'.heap.get b'=some k→∃k',σ.heap.get b'=some k':=by
  intro b' k hk
  rw[Nm] at hk
  by_cases e:b'=b
  ·subst e;exact⟨_,hb⟩
  ·rw[if_neg e] at hk;exact⟨_,hk⟩
 have ma:∀c,Wr ρ σ' c→Wr ρ σ c:=by
  rintro c ⟨b',k,l,h1,_,h3,h4⟩
  obtain⟨k',ew⟩:=hd b' k h1
  exact⟨b',k',l,ew,rfl,h3,h4⟩
 refine⟨⟨fun b' k hk=>?_,fun dd dg k₁ k₂ cw mD h1 h2=>?_,fun b' bA=>h.r.fresh b' (by rw[←hn];exact bA),h.r.valid,fun c o x hx=>⟨(h.r.aV c o x hx).1,fun hw=>(h.r.aV c o x hx).2 (ma c hw)⟩,h.r.laid⟩,
  h.le,by rw[hn];exact h.next,h.jn,h.size,h.os,h.tape,h.output,h.aQ,fun c hc hw=>h.wr c hc (ma c hw),fun b' k hk=>?_,h.hH⟩
 ·rw[Nm] at hk
  by_cases e:b'=b
  ·subst e
   rw[if_pos rfl] at hk
   cases hk
   obtain⟨l,hl,cE⟩:=h.r.di _ _ hb
   refine⟨l,hl,?_⟩
   have lb:=@Xv ρ w _ l n f esz p cE
   cases cE with
   | row hs hn hu hv hf hp=>
    refine .cells hs hn (fun i v hi=>?_) (fun _=>hf) hp
    rcases gx hi with ⟨_,_,h3⟩ | ⟨_,h2⟩
    ·exact lb h3
    ·unfold cellOf at h2
     split at h2
     ·rw[Trie.fw] at h2;simp [ea] at h2
     ·cases h2
  ·rw[if_neg e] at hk;exact h.r.di b' k hk
 ·obtain⟨CY,ew⟩:=hd _ _ h1
  obtain⟨abX,pG⟩:=hd _ _ h2
  exact h.r.inj _ _ _ _ _ _ ew pG
 ·obtain⟨k',eV⟩:=hd _ _ hk
  exact h.jC b' k' eV
theorem yN {n:Nat} {z:List V} {t:Trie V}:∀(vs:List V) (off:Nat),(∀i v,vs[i]? =some v→cellOf n z t (off+i)=some v)→cellsOf n z t vs.length off=some vs
 | [],off,_=>rfl
 | v::vs,off,h=>by
  show lD (cellOf n z t off) (cellsOf n z t vs.length (Nat.add off 1))=_
  rw[show cellOf n z t off=some v from h 0 v rfl,yN vs (Nat.add off 1) fun i u hu=>by
   have:=h (i+1) u (by simpa using hu)
   rwa [show off+(i+1)=Nat.add off 1+i by show off+(i+1)=off+1+i;omega] at this]
  rfl
theorem rU (vs:List V):cellsOf vs.length [] (ai vs .leaf 0) vs.length 0=some vs:=
 yN vs 0 fun i v hi=>by
  have bE:=(List.getElem?_eq_some_iff.1 hi).1
  unfold cellOf
  rw[Nat.zero_add,show Nat.blt i vs.length=true by rw[Nat.blt_eq];exact bE]
  dsimp only
  rw[mG,if_pos ⟨Nat.zero_le _,by omega⟩,Nat.sub_zero,hi]
theorem rV (n:Nat) (f g:Nat→V) (j:Nat):dL n f g j=if j<n then f j else g (j-n):=by
 unfold dL
 by_cases h:j<n
 ·rw[if_pos h,show Nat.blt j n=true by rw[Nat.blt_eq];exact h]
 ·rw[if_neg h]
  cases hb:Nat.blt j n with
  | false=>rfl
  | true=>rw[Nat.blt_eq] at hb;exact absurd hb h
theorem Pv (n m:Nat) (f g:Nat→V):cn (n+m) (dL n f g)=cn n f++cn m g:=by
 apply List.ext_getElem?
 intro i
 by_cases hi:i<n
 ·rw[List.getElem?_append_left (by rw[bg];exact hi),dB (by omega),dB hi,rV,if_pos hi]
 ·rw[List.getElem?_append_right (by rw[bg];omega),bg]
  by_cases e:i<n+m
  ·rw[dB e,rV,if_neg hi,dB (by omega)]
  ·rw[List.getElem?_eq_none (by rw[bg];omega),List.getElem?_eq_none (by rw[bg];omega)]
theorem GW {σ:St} {sz:Nat} {x:V} {m:Nat} {g:Nat→V} {new:List V} (h:oneOf σ sz x=some (m,g,new)):
  m≠0∧jv σ sz x=some (m,new)∧ax (cn m g)=new:=by
 unfold oneOf at h
 split at h
 ·split at h
  ·rename_i hn hc
   cases h
   have hn:=Nat.eq_of_beq_eq_true hn
   subst hn
   refine⟨by omega,?_,?_⟩
   ·show(σ.cells _ _ (1*sz)).map _=_
    rw[hc];rfl
   ·show app new []=new
    rw[fi,List.append_nil]
  ·cases h
 ·rename_i es esz ex
  split at h
  ·rename_i hb
   rw[Bool.and_eq_true] at hb
   cases h
   have h1:=Nat.eq_of_beq_eq_true hb.1
   have h2:=hb.2
   rw[Nat.blt_eq] at h2
   subst h1
   refine⟨by omega,?_,?_⟩
   ·show(if esz=esz then some (len es,ax es) else none)=_
    rw[if_pos rfl]
   ·congr 1
    apply List.ext_getElem?
    intro i
    by_cases hi:i<es.length
    ·rw[dB (by rw[aP];exact hi)];unfold sJ;rw[ea,List.getElem?_eq_getElem hi]
    ·rw[List.getElem?_eq_none (by rw[bg,aP];omega),List.getElem?_eq_none (by omega)]
  ·cases h
 ·cases h
theorem yO {σ mc:St} {b sz:Nat} {x:V} {m:Nat} {new:List V} (h:jv σ sz x=some (m,new)) (fe:∀b',b'≠b→mc.heap.get b'=σ.heap.get b') (hb:∃n f z p,σ.heap.get b=some (.row n f z p)):jv mc sz x=some (m,new):=by
 unfold jv at h⊢
 split at h
 ·exact h
 ·rename_i bx off n cap ex esz
  rw[Option.map_eq_some_iff] at h
  obtain⟨l,hl,he⟩:=h
  have:mc.cells bx off (n*sz)=σ.cells bx off (n*sz):=by
   unfold St.cells
   rw[fe bx fun e=>?_]
   subst e
   obtain⟨n',f,z,p,hb⟩:=hb
   unfold St.cells at hl
   rw[hb] at hl;cases hl
  rw[this,hl,Option.map_some]
  exact congrArg some he
 ·exact h
 ·exact h
 ·cases h
theorem KO [Env] {sz:Nat} {x:V} {m:Nat} {g:Nat→V} {new:List V} (h:oneOf σ sz x=some (m,g,new)) {x':Value} (hx:au ρ x x') (hn:new.length=m*sz):∀i,i<m→(g i).cells.length=sz:=by
 unfold oneOf at h
 split at h
 ·split at h
  ·cases h
   intro i _
   show new.length=sz
   omega
  ·cases h
 ·rename_i es esz ex
  split at h
  ·rename_i hb
   rw[Bool.and_eq_true] at hb
   cases h
   have h1:=Nat.eq_of_beq_eq_true hb.1
   subst h1
   intro i hi
   rw[aP] at hi
   unfold sJ
   rw[ea,List.getElem?_eq_getElem hi]
   have:∀v∈es,v.cells.length=esz:=by
    cases hx with
    | bX hu=>exact hu
    | dP=>exact fun v hv=>by cases hv
    | dt=>exact fun v hv=>by cases hv
   exact this _ (List.getElem_mem hi)
  ·cases h
 ·cases h
theorem CM [Env] (hr:R ρ σ w) (cg:ρ id=none) {tys:Array TypeId} {ty t t':TypeId} (ht:tys[0]? =some t) (fj:tys[1]? =some t') (oL:intType P t'=false) {b n esz:Nat} {v x:V} {σ':St}
  (h:n3 P σ id t b n esz x=some (v,σ')) {s' x':Value} (hs:au ρ (.own b n esz) s') (hx:au ρ x x'):
  ∃ρ' v' w',(Builtin.append_ tys ty #[s',x']).run P w=.ok v' w'∧au ρ' v v'∧aW (fun b=>b=id) ρ σ w ρ' σ' w':=by
 unfold n3 at h
 split at h
 ·rename_i e Xu
  split at h
  ·rename_i sz dy z bk pK hz
   split at h
   ·cases h
   ·rename_i fO
    rw[not_or,not_or,not_or] at fO
    obtain⟨c1,c2,c3,c4⟩:=fO
    rw[ne_eq,Decidable.not_not] at c4
    subst c4
    split at h
    ·rename_i m g new fW
     obtain⟨rS,jc,hfg⟩:=GW fW
     unfold u6 at h
     split at h
     ·rename_i n' f esz p hb
      split at h
      ·rename_i hc
       obtain⟨rfl,rfl,_,ek,oI⟩:=hc
       cases h
       let cs:=ax (cn n' f)
       let mc:=σ.set b (.cells (n'*esz) [] (ai cs .leaf 0) p false)
       have fe:∀b',mc.heap.get b'=if b'=b then some (.cells (n'*esz) [] (ai cs .leaf 0) p false) else σ.heap.get b':=fun b'=>by
        show(σ.set b _).heap.get b'=_
        rw[nk,Trie.b9]
       have aF:=aW.Hz (σ':=mc) (aW.refl (ids:=fun b=>b=id) hr) hb fe (by show(σ.set b _).next=_;rw[sX])
       have hsl:au ρ (.slice b 0 n' n' false esz) s':=by
        cases hs with
        | own hl hc hN=>exact .slice hl (fun h=>by cases h) (fun _=>⟨hc,.inl rfl⟩) hN (Nat.le_refl _)
       obtain⟨l,hl,cE⟩:=hr.di _ _ hb
       have hu:∀i,i<n'→(f i).cells.length=esz:=by cases cE with | row hs hn hu=>exact hu
       have jo:cs.length=n'*esz:=by show(ax _).length=_;rw[cV (gI hu),bg]
       obtain⟨_,_,_,_,DR⟩:=vp (P:=P) hr jc hx
       have bf:jx P mc id t (.slice b 0 n' n' false esz) x=some (grown (mc.kill b) id esz (n'+m) (app cs new) p):=by
        unfold jx
        rw[Xu]
        dsimp only
        rw[bk,pK,hz]
        dsimp only
        rw[if_neg (by rw[not_or,not_or];exact⟨c1,c2,c3⟩)]
        have h1:jv mc esz x=some (m,new):=yO jc (fun b' e=>by rw[fe,if_neg e]) ⟨_,_,_,_,hb⟩
        rw[h1]
        show g9 mc id esz dy m new (.slice b 0 n' n' false esz)=_
        unfold g9
        dsimp only
        rw[if_neg (by simp),if_neg rS,if_neg (by omega),if_pos ek]
        have h2:mc.cells b 0 (n'*esz)=some cs:=by
         unfold St.cells
         rw[fe,if_pos rfl]
         show cellsOf (n'*esz) [] (ai cs .leaf 0) (n'*esz) 0=some cs
         rw[←jo]
         exact rU cs
        rw[h2]
        show oQ mc id esz b false (n'+m) new cs=_
        unfold oQ
        dsimp only
        have h3:pw mc b=some p:=by
         unfold pw
         rw[fe,if_pos rfl]
        rw[h3,oI]
       obtain⟨ρ',v',w',aE,hv,mL⟩:=iA aF.r cg ht fj oL bf hsl hx
       refine⟨ρ',v',w',aE,mJ (by omega) hv,aF.trans ?_⟩
       have Xt:ax (cn (n'+m) (dL n' f g))=app cs new:=by
        rw[Pv,xN,fi,hfg]
       have hug:∀i,i<m→(g i).cells.length=esz:=KO fW hx DR
       have oJ:∀i,i<n'+m→(dL n' f g i).cells.length=esz:=by
        intro i hi
        rw[rV]
        by_cases h:i<n'
        ·rw[if_pos h];exact hu i h
        ·rw[if_neg h];exact hug _ (by omega)
       refine mL.wJ (b:=id) (n:=n'+m) (f:=dL n' f g) (esz:=esz) (z:=[]) (t:=ai (app cs new) .leaf 0) (p:=p) (by show((mc.kill b).new id _).heap.get id=_;rw[fU,Trie.b9,if_pos rfl]) oJ (fun i hi k v hk=>?_) (fun b'=>?_) (by show((σ.kill b).new id _).next=((mc.kill b).new id _).next;rw[lK,lK,vj,vj];show max σ.next (id+1)=max (σ.set b _).next (id+1);rw[sX])
       ·have Ny:k<esz:=by rw[←oJ i hi];exact(List.getElem?_eq_some_iff.1 hk).1
        have bE:i*esz+k<(n'+m)*esz:=by have:=lM hi (Nat.succ_le_of_lt Ny);omega
        unfold cellOf
        have hbb:Nat.blt (i*esz+k) ((n'+m)*esz)=true:=by rw[Nat.blt_eq];exact bE
        rw[hbb]
        dsimp only
        rw[mG,←Xt,if_pos ⟨Nat.zero_le _,by rw[cV (gI oJ),bg];omega⟩,Nat.sub_zero,il (gI oJ) (dB hi) Ny,hk]
       ·show((σ.kill b).new id _).heap.get b'=if b'=id then _ else((mc.kill b).new id _).heap.get b'
        rw[fU,fU,Trie.b9,Trie.b9,l9,l9,Trie.b9,Trie.b9]
        by_cases e:b'=id
        ·rw[if_pos e,if_pos e]
        ·rw[if_neg e,if_neg e,if_neg e]
         by_cases e2:b'=b
         ·rw[if_pos e2,if_pos e2]
         ·rw[if_neg e2,if_neg e2,fe,if_neg e2]
      ·cases h
     ·cases h
    ·cases h
  ·cases h
 ·cases h
theorem GX [Env] (hr:R ρ σ w) (cg:ρ id=none) {tys:Array TypeId} {ty t t':TypeId} (ht:tys[0]? =some t) (fj:tys[1]? =some t') (oL:intType P t'=false) {s x v:V} {σ':St}
  (h:jT P σ id t s x=some (v,σ')) {s' x':Value} (hs:au ρ s s') (hx:au ρ x x'):
  ∃ρ' v' w',(Builtin.append_ tys ty #[s',x']).run P w=.ok v' w'∧au ρ' v v'∧aW (fun b=>b=id) ρ σ w ρ' σ' w':=by
 unfold jT at h
 split at h
 ·exact CL hr cg ht fj oL h hs hx
 ·split at h
  ·exact CM hr cg ht fj oL h hs hx
  ·exact iA hr cg ht fj oL h hs hx
theorem xl [Env] {ρ:aA} {z:V} {zv:Value} (h:au ρ z zv) {sz n:Nat} (hs:z.cells.length=sz) (h0:sz≠0):ay ρ (l4 sz n z.cells) (Builtin.zeroCells zv.cells n).toList:=by
 have hc:=h.cells
 have bk:zv.cells.size=sz:=by rw[←hs,hc.length];simp
 unfold l4 Builtin.zeroCells
 rw[bk]
 generalize n*sz=m
 rw[Array.toList_map,Array.toList_range]
 generalize List.range m=l
 induction l with
 | nil=>exact .nil
 | cons i l ih=>
  refine .cons ?_ ih
  have hi:i%sz<sz:=Nat.mod_lt _ (by omega)
  obtain⟨x,hx,hr⟩:=hc.get (i%sz) (show z.cells[i%sz]? =some _ from List.getElem?_eq_getElem (by omega))
  have e1:z.cells.getD (i%sz) cI=z.cells[i%sz]'(by omega):=by rw[List.getD_eq_getElem?_getD,List.getElem?_eq_getElem (by omega)];rfl
  have e2:zv.cells[i%sz]! =x:=by
   rw[getElem!_pos zv.cells (i%sz) (by omega)]
   rw[Array.getElem?_toList,Array.getElem?_eq_getElem (by omega)] at hx
   exact Option.some.inj hx
  show au ρ (z.cells.getD (i%sz) cI) (zv.cells[i%sz]!)
  rw[e1,e2];exact hr
theorem DT [Env] (hr:R ρ σ w) (cg:ρ id=none) {tys:Array TypeId} {ty t t':TypeId} (ht:tys[0]? =some t) (fj:tys[1]? =some t') {s x v:V} {σ':St}
  (h:k7 P σ id t t' s x=some (v,σ')) {s' x':Value} (hs:au ρ s s') (hx:au ρ x x'):
  ∃ρ' v' w',(Builtin.append_ tys ty #[s',x']).run P w=.ok v' w'∧au ρ' v v'∧aW (fun b=>b=id) ρ σ w ρ' σ' w':=by
 unfold k7 at h
 split at h
 ·rename_i e kk hu hd
  split at h
  ·rename_i n
   split at h
   ·rename_i sz dy z bk pK hz
    split at h
    ·cases h
    ·rename_i fO
     rw[not_or,not_or,not_or,not_or] at fO
     obtain⟨c1,c2,c3,c4,c5⟩:=fO
     rw[aP,ne_eq,Decidable.not_not] at c3
     obtain⟨i,hi,rfl⟩:=s6 pK
     obtain⟨zv,gC,oa⟩:=gU (P:=P) hz ρ
     have oM:zv.cells.size=sz:=by rw[←c3,oa.cells.length];simp
     obtain⟨N,rfl⟩:∃N:Nat,n=(N:Int):=⟨n.toNat,by omega⟩
     rw[Int.toNat_natCast] at h c5
     have ek:N*i.bytes≤1099511627776:=by omega
     have DS:1≤i.bytes:=by omega
     have abY:N≤1099511627776:=Nat.le_trans (Nat.le_mul_of_pos_right _ DS) ek
     have abZ:Builtin.nextslicecap N 0*i.bytes≤2^48:=by
      have h1:=nextslicecap_le (need:=N) (cap:=0) (by omega)
      have h2:Builtin.nextslicecap N 0*i.bytes≤(2*N+192)*i.bytes:=Nat.mul_le_mul_right _ h1
      have h3:(2*N+192)*i.bytes=2*(N*i.bytes)+192*i.bytes:=by rw[Nat.add_mul,Nat.mul_assoc]
      have h4:i.bytes≤1099511627776:=Nat.le_trans (Nat.le_mul_of_pos_left _ (by omega)) ek
      omega
     cases hs;cases hx
     have ab1:IntKind.i64.wrap (N:Int)=N:=by
      have h1:((N:Int)%(2^64:Int))=N:=Int.emod_eq_of_lt (by omega) (by omega)
      unfold IntKind.wrap
      simp only[IntKind.signed,IntKind.bits,h1,Bool.true_and]
      rw[if_neg (by simp;omega)]
     let q:Question:=.appendCap (0+N) 0 e
     have Pt:0+N≤q.cut (w.tape w.drawn q):=by simp [q,Question.cut]
     have fW:ay ρ (l4 sz N z.cells) (Builtin.zeroCells zv.cells N).toList:=xl oa c3 c1
     have DR:(l4 sz N z.cells).length=N*sz:=by simp [l4]
     obtain⟨l,gm,hv⟩:=kf (e:=e) hr cg (old:=[]) (old':=[]) .nil fW (need:=N) (by simpa using DR) oM (q.cut (w.tape w.drawn q)) (by simpa using Pt) true
     have hh:some (grown σ id sz N (l4 sz N z.cells) true)=some (v,σ'):=h
     cases hh
     refine⟨_,_,_,?_,hv,gm⟩
     have gV:(#[Value.slice none 0 0,Value.int .i64 (N:Int)]:Array Value)[0]? =some (Value.slice none 0 0):=rfl
     have pF:(#[Value.slice none 0 0,Value.int .i64 (N:Int)]:Array Value)[1]? =some (Value.int .i64 (N:Int)):=rfl
     have DQ:¬((N:Int)<0):=by omega
     have Nv:¬((N:Int)*(i.bytes:Int)>2^48):=by
      have:(N:Int)*(i.bytes:Int)=((N*i.bytes:Nat):Int):=by simp
      rw[this];omega
     have xV:¬(0+N≤0):=by omega
     have afr:¬(((0+N:Nat):Int)>IntKind.i64.max∧(True∨i.bytes=0)):=by rw[UU];omega
     have ab2:¬(Builtin.nextslicecap (0+N) 0*i.bytes>2^48):=by rw[Nat.zero_add];omega
     have hnz:¬(N*sz=0):=by
      intro h0
      rcases Nat.mul_eq_zero.1 h0 with h0 | h0<;>omega
     have rT:q.forced=false:=rfl
     simp only[Builtin.append_,ht,fj,gV,pF,Sem.run_bind,run_underlying hu,run_underlying hd,Result.andThen_ok,bB bk,Sem.run_pure,if_true,asInt,asIntOf,ab1,if_neg DQ,run_typeInfo hi,if_neg Nv,Int.toNat_natCast]
     rw[if_neg xV]
     simp only[Sem.run_bind,run_typeInfo hi,Result.andThen_ok,if_neg afr,if_neg ab2,run_choose,q,rT,Bool.false_eq_true,if_false,run_askRoom,Bool.not_true,if_neg hnz,gC,Sem.run_pure,Builtin.firstCells]
     simp only[Nat.zero_add,Array.toArray_toList,Array.empty_append] at *
     simp
     rfl
   ·cases h
  ·cases h
 ·cases h
end
end Go.Ev
