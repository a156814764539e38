/- Proved: parts of the way: Tree, Pure, As, As2, S133, BEq1, BEq2. -/
import Derived.Test.YtbajncpfmemdgaaGreatDoorEvQ11
import Derived.ChangeSame
import Derived.Test.YtbajncpfmemdgaaGreatDoorEvQ12
import Derived.Test.YtbajncpfmemdgaaGreatDoorProg
import Derived.WalkKit
import Derived.LaidEql
import Derived.Stop.Asserts
import Derived.RowKitTokens
import Derived.ProofKit
set_option linter.unusedVariables false
set_option linter.unusedSimpArgs false
section
namespace Go.Ev
open Go
def gW (w:World):Ren:=⟨fun _=>none,fun c o=>w.cell? ⟨c,o,none⟩⟩
theorem eA (b:Nat):start.heap.get b=none:=Trie.eK b
theorem yu [Env] (w:World) (hl:∀q∈Env.laid,w.cell? ⟨q.1,q.2.1,none⟩=some q.2.2):R (gW w) start w:=
 ⟨fun b k h=>(by rw[eA] at h;cases h),fun b b' k k' l l' h=>(by rw[eA] at h;cases h),fun _ _=>rfl,fun b l h=>(by cases h),
  fun c o x h=>⟨h,(by rintro⟨b,k,l,hb,_⟩;rw[eA] at hb;cases hb)⟩,hl⟩
def pH (P:Program):List Field→Nat→Nat→Bool
 | [],acc,n=>acc==n
 | f::l,acc,n=>f.offset==acc&&pH P l (acc+P.cellsOf f.type) n
def ko (P:Program):Nat→TypeId→Bool
 | 0,_=>false
 | d+1,t=>match P.underlying t with
  | some .bool | some (.int _) | some .string=>true
  | some (.slice e)=>Nat.blt 0 (P.cellsOf e)&&ko P d e
  | some (.struct fs)=>pH P fs.toList 0 (P.cellsOf t)&&fs.toList.all fun f=>ko P d f.type
  | _=>false
def isAgg (P:Program) (t:TypeId):Bool:=
 match P.underlying t with
 | some (.struct _) | some (.array _ _)=>true
 | _=>false
def qh (P:Program) (t:TypeId) (us:List V):V:=if isAgg P t then .agg us else us.headD cO
def HP (r:TypeId→List V→Prop):List Field→List (List V)→Prop
 | [],[]=>True
 | f::fs,p::ps=>r f.type p∧HP r fs ps
 | _,_=>False
def cb (P:Program):Nat→TypeId→List V→Prop
 | 0,_,_=>False
 | d+1,t,us=>match P.underlying t with
  | some .bool=>∃b,us=[.bool b]
  | some (.int k)=>∃n,us=[.int k n]∧(Lit.int k n).wf=true
  | some .string=>∃s,us=[.str s]∧s.length≤maxLen
  | some (.slice e)=>∃es:List (List V),us=[.bk (es.map (qh P e)) (P.cellsOf e) false]∧es.length≤maxLen∧∀x∈es,cb P d e x
  | some (.struct fs)=>∃ps:List (List V),us=ps.flatten∧HP (cb P d) fs.toList ps
  | _=>False
theorem cb.cells {P:Program} {d:Nat} {t:TypeId} {us:List V} (h:cb P d t us):(qh P t us).cells=us:=by
 cases d with
 | zero=>exact h.elim
 | succ d=>
  unfold cb at h
  unfold qh isAgg
  split at h
  ·rename_i hu;obtain⟨b,rfl⟩:=h;rw[hu];rfl
  ·rename_i hu;obtain⟨b,rfl,_⟩:=h;rw[hu];rfl
  ·rename_i hu;obtain⟨b,rfl,_⟩:=h;rw[hu];rfl
  ·rename_i hu;obtain⟨b,rfl,_⟩:=h;rw[hu];rfl
  ·rename_i hu;rw[hu];rfl
  ·exact h.elim
theorem oY {α β:Type} {f:α→Option β}:∀ {l:List α} {r:List β},l.mapM f=some r→r.length=l.length∧∀(i:Nat) x,l[i]? =some x→∃y,r[i]? =some y∧f x=some y
 | [],r,h=>by
  simp only[List.mapM_nil] at h
  cases h
  exact⟨rfl,fun i x hx=>by simp at hx⟩
 | a::l,r,h=>by
  rw[List.mapM_cons] at h
  simp only[Option.bind_eq_bind,Option.bind_eq_some_iff,Option.pure_def] at h
  obtain⟨y,hy,r',gw,he⟩:=h
  cases he
  obtain⟨h1,h2⟩:=oY gw
  refine⟨by simp [h1],fun i x hx=>?_⟩
  cases i with
  | zero=>simp at hx;subst hx;exact⟨y,rfl,hy⟩
  | succ i=>exact h2 i x (by simpa using hx)
theorem Mc {w:World} {a:Addr} {p q:Nat} {x:Value} (h:w.cell? ((a.add p).add q)=some x):w.cell? ⟨a.block,a.off+p+q,none⟩=some x:=by
 obtain⟨c,o,s⟩:=a
 have hs:∀(b:Addr) {y:Value},w.cell? b=some y→b.spot=none:=by
  intro b y hb
  unfold World.cell? at hb
  split at hb
  ·split at hb
   ·cases hb
   ·rename_i hn;simpa using hn
  ·cases hb
 unfold Addr.add at h
 by_cases hq:q=0
 ·subst hq
  rw[if_pos rfl] at h
  by_cases hp:p=0
  ·subst hp
   rw[if_pos rfl] at h
   have e:=hs _ h
   dsimp only at e
   subst e
   exact h
  ·rw[if_neg hp] at h;exact h
 ·rw[if_neg hq] at h
  by_cases hp:p=0
  ·subst hp;rw[if_pos rfl] at h;exact h
  ·rw[if_neg hp] at h;exact h
theorem Kl {w:World} {base:Nat} {a:Addr} {p n:Nat} {xs:List Value} (h:w.cells? base (a.add p) n=some xs):xs.length=n∧∀(k:Nat) x,xs[k]? =some x→w.cell? ⟨a.block,a.off+p+k,none⟩=some x:=by
 unfold World.cells? at h
 split at h
 ·obtain⟨h1,h2⟩:=oY h
  rw[List.length_range] at h1
  refine⟨h1,fun k x hx=>?_⟩
  have hk:k<n:=by rw[←h1];exact(List.getElem?_eq_some_iff.1 hx).1
  obtain⟨y,hy,hc⟩:=h2 k k (by rw[List.getElem?_range hk])
  rw[hx] at hy;cases hy
  exact Mc hc
 ·cases h
theorem au.flatten [Env] {ρ:Ren}:∀ {us:List (List V)} {xs:List (List Value)},us.length=xs.length→(∀(i:Nat) u x,us[i]? =some u→xs[i]? =some x→au ρ u x)→au ρ us.flatten xs.flatten
 | [],[],_,_=>.nil
 | u::us,x::xs,hl,h=>(h 0 u x rfl rfl).append (au.flatten (by simpa using hl) fun i u x hu hx=>h (i+1) u x (by simpa using hu) (by simpa using hx))
section
variable {H:Type} {enc:TypeId×Value→H} {P:Program} {w:World} {base:Nat} {spare:Nat→Bool} {held:Bool} [Env]
theorem wE {d:Nat} (ih:∀ {fuel:Nat} {t:TypeId} {cs:List Value} {x:DataW H×List MemPlace},ko P d t=true→DataW.trod enc P w base spare held fuel t cs=some x→∃us,au (gW w) us cs∧cb P d t us)
  {cs:List Value}:∀ {fs:List Field} {acc:Nat},pH P fs acc cs.length=true→fs.all (fun f=>ko P d f.type)=true→
  (∀f∈fs,∃fuel x,DataW.trod enc P w base spare held fuel f.type ((cs.drop f.offset).take (P.cellsOf f.type))=some x)→acc≤cs.length→∃ps:List (List V),au (gW w) ps.flatten (cs.drop acc)∧HP (cb P d) fs ps
 | [],acc,hl,_,_,_=>by
  have e:acc=cs.length:=by simpa [pH] using hl
  subst e
  exact⟨[],by rw[List.drop_length];exact .nil,trivial⟩
 | f::fs,acc,hl,hp,hx,hle=>by
  simp only[pH,Bool.and_eq_true,beq_iff_eq] at hl
  simp only[List.all_cons,Bool.and_eq_true] at hp
  obtain⟨fuel,x,hf⟩:=hx f List.mem_cons_self
  obtain⟨us,h1,h2⟩:=ih hp.1 hf
  have ZV:acc+P.cellsOf f.type≤cs.length:=by
   have:∀(fs:List Field) (a n:Nat),pH P fs a n=true→a≤n:=by
    intro fs
    induction fs with
    | nil=>intro a n h;simp [pH] at h;omega
    | cons f fs ih=>intro a n h;simp only[pH,Bool.and_eq_true,beq_iff_eq] at h;have:=ih _ _ h.2;omega
   exact this _ _ _ hl.2
  obtain⟨ps,h3,h4⟩:=wE ih hl.2 hp.2 (fun g hg=>hx g (List.mem_cons_of_mem _ hg)) ZV
  refine⟨us::ps,?_,h2,h4⟩
  rw[hl.1] at h1
  rw[List.flatten_cons]
  have e:cs.drop acc=(cs.drop acc).take (P.cellsOf f.type)++cs.drop (acc+P.cellsOf f.type):=by
   rw[←List.drop_drop,List.take_append_drop]
  rw[e]
  exact h1.append h3
theorem vl:∀(d:Nat) {fuel:Nat} {t:TypeId} {cs:List Value} {x:DataW H×List MemPlace},ko P d t=true→DataW.trod enc P w base spare held fuel t cs=some x→∃us,au (gW w) us cs∧cb P d t us
 | 0,_,_,_,_,hp,_=>by cases hp
 | d+1,0,_,_,_,_,h=>by cases h
 | d+1,fuel+1,t,cs,x,hp,h=>by
  rw[DataW.trod_step] at h
  unfold DataW.trodStep at h
  unfold ko at hp
  unfold cb
  split at h
  case h_1 b hu=>exact⟨[.bool b],.cons (.bool b) .nil,by rw[hu];exact⟨b,rfl⟩⟩
  case h_2 k k' n hu=>
   split at h
   ·rename_i hc
    obtain⟨rfl,hw⟩:=hc
    exact⟨[.int k' n],.cons (.int k' n) .nil,by rw[hu];exact⟨n,rfl,hw⟩⟩
   ·cases h
  case h_3 hu=>rw[hu] at hp;cases hp
  case h_4 s hu=>
   split at h
   ·rename_i hs
    exact⟨[.str s.data.toList],.cons (.str s.data.toList) .nil,by rw[hu];exact⟨_,rfl,by rw[Array.length_toList];exact hs⟩⟩
   ·cases h
  case h_5 hu=>rw[hu] at hp;cases hp
  case h_6 hu=>rw[hu] at hp;cases hp
  case h_7 e hu=>exact⟨[.bk [] (P.cellsOf e) false],.cons .dO .nil,by rw[hu];exact⟨[],rfl,Nat.zero_le _,fun x hx=>by cases hx⟩⟩
  case h_8 e a len cap hu=>
   rw[hu] at hp
   dsimp only at hp
   rw[Bool.and_eq_true,Nat.blt_eq] at hp
   obtain⟨hn,hpe⟩:=hp
   simp only at h
   split at h
   ·rename_i hc
    simp only[Option.map_eq_some_iff,Option.bind_eq_some_iff] at h
    obtain⟨elems,he,rest,_,_⟩:=h
    obtain⟨h1,h2⟩:=oY he
    rw[List.length_range] at h1
    have each:∀i,i<len→∃xs us,au (gW w) us xs∧cb P d e us∧xs.length=P.cellsOf e∧∀(k:Nat) x,xs[k]? =some x→w.cell? ⟨a.block,a.off+i*P.cellsOf e+k,none⟩=some x:=by
     intro i hi
     obtain⟨y,_,hy⟩:=h2 i i (by rw[List.getElem?_range hi])
     rw[Option.bind_eq_some_iff] at hy
     obtain⟨xs,lH,hy⟩:=hy
     obtain⟨g1,g2⟩:=Kl lH
     obtain⟨us,g3,g4⟩:=vl d hpe hy
     exact⟨xs,us,g3,g4,g1,g2⟩
    have row:∀m j,j+m≤len→∃(es:List (List V)) (xs:List Value),es.length=m∧au (gW w) es.flatten xs∧(∀u∈es,cb P d e u∧u.length=P.cellsOf e)∧∀(k:Nat) x,xs[k]? =some x→w.cell? ⟨a.block,a.off+j*P.cellsOf e+k,none⟩=some x:=by
     intro m
     induction m with
     | zero=>exact fun j _=>⟨[],[],rfl,.nil,(fun u hu=>by cases hu),fun k x hx=>by simp at hx⟩
     | succ m ihm=>
      intro j hj
      obtain⟨xs,us,g1,g2,g3,g4⟩:=each j (by omega)
      obtain⟨es,ys,k1,k2,k3,k4⟩:=ihm (j+1) (by omega)
      have BQ:us.length=P.cellsOf e:=by rw[g1.length,g3]
      refine⟨us::es,xs++ys,by simp [k1],by rw[List.flatten_cons];exact g1.append k2,fun u hu=>?_,fun k x hx=>?_⟩
      ·rcases List.mem_cons.1 hu with rfl | hu
       ·exact⟨g2,BQ⟩
       ·exact k3 u hu
      ·by_cases hk:k<xs.length
       ·rw[List.getElem?_append_left hk] at hx;exact g4 k x hx
       ·rw[List.getElem?_append_right (by omega)] at hx
        have:=k4 _ x hx
        rw[Nat.add_mul,Nat.one_mul] at this
        rwa [show a.off+(j*P.cellsOf e+P.cellsOf e)+(k-xs.length)=a.off+j*P.cellsOf e+k by omega] at this
    obtain⟨es,xs,k1,k2,k3,k4⟩:=row len 0 (by omega)
    have WU:ar (es.map (qh P e))=es.flatten:=by
     have:∀(l:List (List V)),(∀u∈l,cb P d e u)→ar (l.map (qh P e))=l.flatten:=by
      intro l
      induction l with
      | nil=>intro _;rfl
      | cons u l ihl=>intro hl;rw[List.map_cons,bS,(hl u List.mem_cons_self).cells,ihl fun v hv=>hl v (List.mem_cons_of_mem _ hv),List.flatten_cons]
     exact this es fun u hu=>(k3 u hu).1
    have xN:∀v∈es.map (qh P e),v.cells.length=P.cellsOf e:=by
     intro v hv
     obtain⟨u,hu,rfl⟩:=List.mem_map.1 hv
     rw[(k3 u hu).1.cells];exact(k3 u hu).2
    refine⟨[.bk (es.map (qh P e)) (P.cellsOf e) false],.cons ?_ .nil,by rw[hu];exact⟨es,rfl,by rw[k1];omega,fun x hx=>(k3 x hx).1⟩⟩
    by_cases h0:len=0
    ·subst h0
     have:es=[]:=List.eq_nil_of_length_eq_zero k1
     subst this
     exact .dh fun h=>by cases h
    ·have O2:a.spot=none:=by
      obtain⟨y,_,hy⟩:=h2 0 0 (by rw[List.getElem?_range (by omega)])
      rw[Option.bind_eq_some_iff] at hy
      obtain⟨zs,nO,_⟩:=hy
      unfold World.cells? at nO
      split at nO
      ·obtain⟨z1,z2⟩:=oY nO
       obtain⟨y,_,hy⟩:=z2 0 0 (by rw[List.getElem?_range hn])
       rw[Nat.zero_mul] at hy
       have ha:(a.add 0).add 0=a:=by simp [Addr.add]
       rw[ha] at hy
       unfold World.cell? at hy
       split at hy
       ·split at hy
        ·cases hy
        ·rename_i hs;simpa using hs
       ·cases hy
      ·cases nO
     have key:=aq.bk (ρ:=gW w) (es:=es.map (qh P e)) (c:=a.block) (off:=a.off) (cap:=cap) (ex:=false) (xs:=xs) xN (by rw[WU];exact k2) (fun k x hx=>by have:=k4 k x hx;rwa [Nat.zero_mul,Nat.add_zero] at this) (by rw[List.length_map,k1];exact hc.2.1) (fun h=>by cases h)
     rw[List.length_map,k1] at key
     obtain⟨c,o,s⟩:=a
     dsimp only at O2
     subst O2
     exact key
   ·cases h
  case h_9 _ fs hu=>
   rename_i cs _ _
   rw[hu] at hp
   dsimp only at hp
   rw[Bool.and_eq_true] at hp
   split at h
   ·rename_i hl
    rw[Option.map_eq_some_iff] at h
    obtain⟨xs,lH,_⟩:=h
    obtain⟨h1,h2⟩:=oY lH
    obtain⟨ps,g1,g2⟩:=wE (d:=d) (fun {fuel t cs x} hp h=>vl d hp h) (cs:=cs) (fs:=fs.toList) (acc:=0) (by rw[hl];exact hp.1) hp.2 (fun f hf=>by
     obtain⟨i,hi,rfl⟩:=List.getElem_of_mem hf
     obtain⟨y,_,hy⟩:=h2 i _ (List.getElem?_eq_getElem hi)
     exact⟨fuel,y,hy⟩) (Nat.zero_le _)
    rw[List.drop_zero] at g1
    exact⟨ps.flatten,g1,by rw[hu];exact⟨ps,rfl,g2⟩⟩
   ·cases h
  all_goals first
   | (rename_i hu;rw[hu] at hp;cases hp;done)
   | (rename_i hu _;rw[hu] at hp;cases hp;done)
   | cases h
end
end Go.Ev
end
section
namespace Go.Ev
open Go
def ae {α:Type} [Inhabited α] (enc:α→V) (esz:Nat) (l:List α):V:=.arr l.length (fun i=>enc (l.getD i default)) esz false false
def HQ {α:Type} [Inhabited α] (enc:α→V) (esz:Nat) (l:List α):V:=.arr l.length (fun i=>enc (l.getD i default)) esz false true
def lp (c:Code) (k:Nat):Code:=((aQ c)[k]?).getD .skip
section
variable [Env] {P:Program} {σ:St}
theorem dp {α:Type} [Inhabited α] {enc:α→V} {esz:Nat} {l:List α} (h:∀x∈l,∀u∈(enc x).cells,Clean u):Clean (ae enc esz l):=
 Clean.arr fun i hi=>by
  have:l.getD i default=l[i]:=by rw[List.getD_eq_getElem?_getD,List.getElem?_eq_getElem hi];rfl
  rw[this];exact h _ (List.getElem_mem hi)
theorem ag.O3 {f:FuncId} {vs us:List V} {Q:V→Prop} (hf:bn σ vs us) (hq:∀v,Q v→∀(ρ ρ':Ren) x,aq ρ v x→aq ρ' v x) (h:ag P f us (fun v _=>Q v) start):ag P f vs (fun v σ'=>Q v∧σ'=σ) σ:=by
 have h:=h.h
 refine⟨⟨?_,?_⟩⟩
 ·obtain⟨⟨o,τ⟩,hx⟩:=h.1
  cases o with
  | val v=>exact⟨(.val v,σ),hx,rfl⟩
  | exit e a=>exact hx.elim
 ·intro ρ w vs' hr hv
  have si:au (gW w) us vs':=eN hr (fun c o x hx=>(hr.aL c o x hx).1) (fun b k l _ _ o x hx=>hx) hf hv
  obtain⟨g1,g2⟩:=cm.at h (gW w) w vs' (yu w fun q hq=>(hr.aL _ _ _ (hr.laid q hq)).1) si
  refine⟨g1,g2.mono fun e w' hx=>?_⟩
  obtain⟨v,hJ,bD,v',iA,rfl,kl,az⟩:=hx
  have zq:∀ {c},¬Wr (gW w) start c:=by rintro c ⟨b,k,l,hb,_⟩;rw[eA] at hb;cases hb
  have hold:∀c,c<w.heap.size→w'.heap[c]? =w.heap[c]? :=fun c hc=>az.aJ c hc zq
  refine⟨v,σ,ρ,v',⟨iA,rfl⟩,rfl,hq v iA bD ρ v' kl,⟨⟨fun b k hb=>?_,hr.inj,hr.fresh,fun b l hb=>Nat.lt_of_lt_of_le (hr.valid b l hb) az.size,fun c o x hx=>?_,hr.laid⟩,Ren.le.refl ρ,Nat.le_refl _,fun b l hb=>.inl hb,az.size,az.os,az.tape,az.output,
   fun c hc _=>hold c hc,fun c _ h=>h,fun b k hb=>.inl ⟨k,hb⟩,fun c o x hx=>.inl hx⟩⟩
  ·obtain⟨l,hl,hk⟩:=hr.cP b k hb
   exact⟨l,hl,hk.same (Ren.le.refl ρ) (hold l.c (hr.valid b l hl))⟩
  ·obtain⟨a1,a2⟩:=hr.aL c o x hx
   exact⟨by rw[cell?_of_block (hold c (eX a1))];exact a1,a2⟩
theorem ag.Bn {f:FuncId} {vs:List V} {Q:V→Prop} (hc:∀v∈vs,Clean v) (h:ag P f vs (fun v τ=>∃u,dQ τ v u∧Q u) start):ag P f vs (fun v σ'=>Q v∧σ'=σ) σ:=by
 have h:=h.h
 refine⟨⟨?_,?_⟩⟩
 ·obtain⟨⟨o,τ⟩,hx⟩:=h.1
  cases o with
  | val v=>obtain⟨u,_,hu⟩:=hx;exact⟨(.val u,σ),hu,rfl⟩
  | exit e a=>exact hx.elim
 ·intro ρ w vs' hr hv
  let bz:Ren:=⟨fun _=>none,ρ.aL⟩
  have zq:∀ {c},¬Wr bz start c:=by rintro c ⟨b,k,l,hb,_⟩;rw[eA] at hb;cases hb
  have sg:R bz start w:=⟨fun b k h=>(by rw[eA] at h;cases h),fun b b' k k' l l' h=>(by rw[eA] at h;cases h),fun _ _=>rfl,fun b l h=>(by cases h),fun c o x h=>⟨(hr.aL c o x h).1,zq⟩,hr.laid⟩
  have si:au bz vs vs':=au.clean (ρ:=ρ) (ρ':=bz) (fun _ _ _ h=>h) hc hv
  obtain⟨g1,g2⟩:=cm.at h bz w vs' sg si
  refine⟨g1,g2.mono fun e w' hx=>?_⟩
  obtain⟨v,hJ,bD,v',⟨u,hf,hq⟩,rfl,kl,az⟩:=hx
  let bh:Ren:=⟨ρ.at',fun c o=>if c<w.heap.size then ρ.aL c o else w'.cell? ⟨c,o,none⟩⟩
  have hold:∀c,c<w.heap.size→w'.heap[c]? =w.heap[c]? :=fun c hc=>az.aJ c hc zq
  have hle:ρ.le bh:=⟨fun b l hb=>hb,fun c o x hx=>by
   show(if c<w.heap.size then ρ.aL c o else _)=some x
   rw[if_pos (eX (hr.aL c o x hx).1)];exact hx⟩
  have w8:∀c o x,bD.aL c o=some x→bh.aL c o=some x:=by
   intro c o x hx
   show(if c<w.heap.size then ρ.aL c o else _)=some x
   by_cases hc:c<w.heap.size
   ·rw[if_pos hc]
    rcases az.gv c o x hx with h1 | h1 | h1
    ·exact h1
    ·omega
    ·exact absurd h1 zq
   ·rw[if_neg hc];exact(az.r.aL c o x hx).1
  have fD:∀b k l,hJ.heap.get b=some k→bD b=some l→∀o x,w'.cell? ⟨l.c,o,none⟩=some x→bh.aL l.c o=some x:=by
   intro b k l hb hl o x hx
   show(if l.c<w.heap.size then ρ.aL l.c o else _)=some x
   rw[if_neg fun hc=>zq (az.wr l.c hc ⟨b,k,l,hb,rfl,hl,rfl⟩)]
   exact hx
  refine⟨u,σ,bh,v',⟨hq,rfl⟩,rfl,mB az.r w8 fD hf kl,⟨⟨fun b k hb=>?_,hr.inj,hr.fresh,fun b l hb=>Nat.lt_of_lt_of_le (hr.valid b l hb) az.size,fun c o x hx=>?_,hr.qG hle⟩,hle,Nat.le_refl _,fun b l hb=>.inl hb,az.size,az.os,az.tape,az.output,
   fun c hc _=>hold c hc,fun c _ h=>h,fun b k hb=>.inl ⟨k,hb⟩,fun c o x hx=>?_⟩⟩
  ·obtain⟨l,hl,hk⟩:=hr.cP b k hb
   exact⟨l,hl,hk.same hle (hold l.c (hr.valid b l hl))⟩
  ·replace hx:(if c<w.heap.size then ρ.aL c o else w'.cell? ⟨c,o,none⟩)=some x:=hx
   by_cases hc:c<w.heap.size
   ·rw[if_pos hc] at hx
    obtain⟨a1,a2⟩:=hr.aL c o x hx
    exact⟨by rw[cell?_of_block (hold c hc)];exact a1,a2⟩
   ·rw[if_neg hc] at hx
    refine⟨hx,?_⟩
    rintro⟨b,k,l,_,_,h3,h4⟩
    exact hc (by rw[←h4];exact hr.valid b l h3)
  ·replace hx:(if c<w.heap.size then ρ.aL c o else w'.cell? ⟨c,o,none⟩)=some x:=hx
   by_cases hc:c<w.heap.size
   ·rw[if_pos hc] at hx;exact .inl hx
   ·exact .inr (.inl (Nat.le_of_not_lt hc))
def ER:Code→Bool
 | .loop _=>false
 | _=>true
structure bU (P:Program) (f:FuncId) (g:Func):Prop where
 hf:P.funcs[f]? =some g
 hb:g.body=some (g.body.getD .skip)
 hn:(g.name== "runtime.NumGoroutine")=false
 hp:hQ (g.body.getD .skip)=true
 hl:ER (g.body.getD .skip)=true
def kS (F:FuncId) (W:List V→St→ah→Prop) (K:FuncId→List V→St→ah→Prop) (g:FuncId) (vs:List V) (σ:St) (k:ah):Prop:=
 match Nat.beq g F with
 | true=>W vs σ k
 | false=>K g vs σ k
omit [Env] in
theorem PU {F:FuncId} {W:List V→St→ah→Prop} {K:FuncId→List V→St→ah→Prop} {R:FuncId→List V→St→ah→Prop} (h1:∀ {vs σ k},W vs σ k→R F vs σ k) (h2:∀ {g vs σ k},K g vs σ k→R g vs σ k) {g:FuncId} {vs:List V} {σ:St} {k:ah} (h:kS F W K g vs σ k):R g vs σ k:=by
 unfold kS at h
 split at h
 ·rename_i hb;obtain rfl:=Nat.eq_of_beq_eq_true hb;exact h1 h
 ·exact h2 h
theorem aP {F:FuncId} {W:List V→St→ah→Prop} {K:FuncId→List V→St→ah→Prop} (h1:∀ {vs σ k},W vs σ k→ag P F vs k σ) (h2:∀ {g vs σ k},K g vs σ k→ag P g vs k σ) {g:FuncId} {vs:List V} {σ:St} {k:ah} (h:kS F W K g vs σ k):ag P g vs k σ:=
 PU (R:=fun g vs σ k=>ag P g vs k σ) h1 h2 h
def WE (P:Program) (f:FuncId) (g:Func) (call:FuncId→List V→St→ah→Prop) (n₀:Nat) (live:Nat→List Nat) (I:Nat→List SV→Prop) (Q:ah) (vs:List V) (σ:St):Prop:=
 ws P (KF P call n₀ g.ntmps live I) f none 0 (g.body.getD .skip) (oW P g Q) (lC g.ntmps vs) σ
def WL (P:Program) (f:FuncId) (g:Func) (call:FuncId→List V→St→ah→Prop) (n₀:Nat) (live:Nat→List Nat) (I:Nat→List SV→Prop) (Q:ah) (k:Nat) (ss:List SV):Prop:=
 ws P (KF P call n₀ g.ntmps live I) f none (Nat.add k 1) (lp (g.body.getD .skip) k) (ig (fun a σ=>lV n₀ g.ntmps (live k) a σ (I k)) (behind P (KF P call n₀ g.ntmps live I) f (g.body.getD .skip) 0 k (oW P g Q))) (EM g.ntmps (live k) ss) (EN ss)
def SA (g:Func):Bool:=(match g.body with | some _=>true | none=>false)&& !(g.name== "runtime.NumGoroutine")&&hQ (g.body.getD .skip)&&ER (g.body.getD .skip)
omit [Env] in
theorem bU.of {f:FuncId} {g:Func} (hf:P.funcs[f]? =some g) (h:SA g=true):bU P f g:=by
 unfold SA at h
 simp only[Bool.and_eq_true] at h
 obtain⟨⟨⟨h1,h2⟩,h3⟩,h4⟩:=h
 refine⟨hf,?_,?_,h3,h4⟩
 ·split at h1
  ·rename_i c hc;rw[hc];rfl
  ·cases h1
 ·cases hx:(g.name== "runtime.NumGoroutine") with
  | false=>rfl
  | true=>rw[hx] at h2;cases h2
variable [eJ P] {f:FuncId} {g:Func} {call:FuncId→List V→St→ah→Prop} {vs:List V} {Q:ah} {n₀:Nat} {live:Nat→List Nat}
theorem bU.cx (F:bU P f g) (e9:∀ {f vs σ k},call f vs σ k→ag P f vs k σ) (yr:σ.next=n₀) (N:Nat) (hN:aF (g.body.getD .skip)=N)
  {α:Type} {r:α→α→Prop} (wf:WellFounded r) (μ:Nat→List SV→α) (I:Nat→List SV→Prop) (hc:∀k ss,I k ss→∀s∈ss,s.clean)
  (tS:WE P f g call n₀ live I Q vs σ)
  (lP:∀k,k<N→∀ss,I k ss→WL P f g call n₀ live (fun k' ei=>I k' ei∧r (μ k' ei) (μ k ss)) Q k ss):
  ag P f vs Q σ:=by
 refine ag.cx (fun h=>e9 h) F.hf F.hb F.hn F.hp yr wf μ I hc tS (fun k x hx ss hI=>?_) fun x e=>?_
 ·have hk:k<N:=by
   rw[←hN,←dN]
   exact(List.getElem?_eq_some_iff.1 hx).1
  have e:x=lp (g.body.getD .skip) k:=by unfold lp;rw[hx];rfl
  subst e
  exact lP k hk ss hI
 ·have:=F.hl
  rw[e] at this;cases this
theorem bU.flat (F:bU P f g) (e9:∀ {f vs σ k},call f vs σ k→ag P f vs k σ) (yr:σ.next=n₀) (hN:aF (g.body.getD .skip)=0)
  (h:WE P f g call n₀ live (fun _ _=>False) Q vs σ):ag P f vs Q σ:=
 F.cx (fun h=>e9 h) yr 0 hN Nat.lt_wfRel.wf (fun _ _=>0) (fun _ _=>False) (fun _ _ h=>h.elim) h fun k hk=>absurd hk (Nat.not_lt_zero k)
def V.gb:V→Bool
 | .int _ _ | .bool _ | .str _=>true
 | .tuple []=>true
 | _=>false
omit [eJ P] in
theorem V.Md {v:V} (h:V.gb v=true) (ρ ρ':Ren) (x:Value) (hx:aq ρ v x):aq ρ' v x:=by
 unfold V.gb at h
 split at h
 ·cases hx;exact .int _ _
 ·cases hx;exact .bool _
 ·cases hx;exact .str _
 ·cases hx with | tuple h=>cases h;exact .tuple .nil
 ·cases h
omit [eJ P] in
theorem ag.Km {us:List V} {k:ah} {A:V→Prop} (hf:bn σ vs us) (hA:∀v,A v→V.gb v=true) (h:ag P f us (fun v _=>A v) start) (hk:∀v,A v→k v σ):ag P f vs k σ:=
 (ag.O3 (Q:=A) hf (fun v hv ρ ρ' x hx=>V.Md (hA v hv) ρ ρ' x hx) h).mono fun v τ ⟨h1,h2⟩=>by subst h2;exact hk v h1
omit [eJ P] in
theorem ag.one {us:List V} {k:ah} {v:V} (hf:bn σ vs us) (hv:V.gb v=true) (h:ag P f us (fun u _=>u=v) start) (hk:k v σ):ag P f vs k σ:=
 ag.Km hf (fun u e=>by rw[e];exact hv) h fun u e=>by rw[e];exact hk
theorem cz:∀v∈([]:List V),Clean v:=fun _ h=>by cases h
theorem ax {v:V} {l:List V} (h:Clean v) (hl:∀u∈l,Clean u):∀u∈v::l,Clean u:=fun u hu=>by
 rcases List.mem_cons.1 hu with rfl | hu
 ·exact h
 ·exact hl u hu
omit [eJ P] in
theorem ag.told {Q':ah} (h:ag P f vs Q' start) (hq:∀v τ,Q' v τ→∃m v' σ',eE m v' v∧qX 0 m ⟨[],0,[]⟩ σ' ⟨[],0,[]⟩ τ∧Q v' σ'):ag P f vs Q start:=by
 have h:=h.h
 refine⟨⟨?_,?_⟩⟩
 ·obtain⟨⟨o,τ⟩,hx⟩:=h.1
  cases o with
  | val v=>obtain⟨_,v',σ',_,_,h3⟩:=hq v τ hx;exact⟨(.val v',σ'),h3⟩
  | exit e a=>exact hx.elim
 ·intro ρ w vs' hr hv
  obtain⟨g1,g2⟩:=cm.at h ρ w vs' hr hv
  refine⟨g1,g2.mono fun e w' hx=>?_⟩
  obtain⟨v,τ,bD,x,hx,rfl,kl,az⟩:=hx
  obtain⟨m,v',σ',mf,hf,h3⟩:=hq v τ hx
  exact⟨v',σ',bD.pull m,x,h3,rfl,mf.rel kl,((gG.of (n₀:=0) (Nat.zero_le _) az).EL hf).to hr⟩
end
end Go.Ev
end
section
namespace Go.Proofs.YtbajncpfmemdgaaGreatDoor
open Go.RowKit Go.Extern.Stop Go.Stop Go.Extern
theorem SB (t:Value) (w:World):
  Calls Tryz.prog 175 #[.nilIface,t] w fun e w'=>e=.returned (.bool false)∧w'=w:=by
 go_enter Tryz.func175,Tryz.ntmps175
 go_wp2
 go_ret
 exact⟨rfl,rfl⟩
theorem Tryz.asvalueOf27 (t:Addr) (w:World):(ReflectliteValue.unpack (.iface 218 (.pointer (some t)))).run Tryz.prog w
  =.ok (.agg #[.pointer (some ⟨3,218,none⟩),.pointer (some ⟨w.heap.size,0,none⟩),.int .u64 150]) (w.alloc (.cells #[.pointer (some t)] 218)):=by kernel_rfl
theorem Tryz.astype27 (a:Addr) (w:World):(ReflectliteValue.methodAny (ReflectliteValue.valueError "reflectlite.Value.Type" 0) (fun t _ _ _=>ReflectliteType.toType t) #[.agg #[.pointer (some ⟨3,218,none⟩),.pointer (some a),.int .u64 150]]).run Tryz.prog w
  =.ok (.iface 292 (.agg #[.pointer (some ⟨3,218,none⟩)])) w:=by kernel_rfl
theorem Tryz.asmethodKind (h:Value) (w:World):(Go.method 463 292 (.agg #[h]) "Kind").run Tryz.prog w=.ok (296,h) w:=by kernel_rfl
theorem Tryz.askind27 (w:World):((ReflectliteType.abiMethod fun t=>(fun a:Nat=>Value.int IntKind.u8 (a:Int)) <$> Rtype.kind t) #[.pointer (some ⟨3,218,none⟩)]).run Tryz.prog w=.ok (.int .u8 22) w:=by kernel_rfl
theorem Tryz.askind25 (w:World):((ReflectliteType.abiMethod fun t=>(fun a:Nat=>Value.int IntKind.u8 (a:Int)) <$> Rtype.kind t) #[.pointer (some ⟨3,216,none⟩)]).run Tryz.prog w=.ok (.int .u8 25) w:=by kernel_rfl
theorem Yl (z:Sem Value) (f:TypeId→Addr→Nat→Nat→Sem Value) (v:Value):
  ReflectliteValue.method z f #[v]=(do match←ReflectliteValue.parts v with | none=>z | some (t,a,fl)=>f t a fl (fl%32)):=rfl
theorem Tryz.AL (a:Addr) (w:World):(ReflectliteValue.parts (.agg #[.pointer (some ⟨3,218,none⟩),.pointer (some a),.int .u64 150])).run Tryz.prog w=.ok (some (218,a,150)) w:=by kernel_rfl
theorem Tryz.asisNil27 (a p:Addr) (W:World) (ha:W.cell? a=some (.pointer (some p))):
  (ReflectliteValue.method (ReflectliteValue.valueError "reflectlite.Value.IsNil" 0) ReflectliteValue.isNil #[.agg #[.pointer (some ⟨3,218,none⟩),.pointer (some a),.int .u64 150]]).run Tryz.prog W=.ok (.bool false) W:=by
 rw[Yl]
 simp only[Sem.run_bind,Tryz.AL,Result.andThen]
 simp [ReflectliteValue.isNil,loadVar,isAgg,underlying,Tryz.underlying218,ha,Result.andThen]
theorem Tryz.asmethodElem (h:Value) (w:World):(Go.method 463 292 (.agg #[h]) "Elem").run Tryz.prog w=.ok (322,.agg #[h]) w:=by kernel_rfl
theorem Tryz.asmethodImplements (h:Value) (w:World):(Go.method 463 292 (.agg #[h]) "Implements").run Tryz.prog w=.ok (323,.agg #[h]) w:=by kernel_rfl
theorem Tryz.asmethodAssignableTo (h:Value) (w:World):(Go.method 463 292 (.agg #[h]) "AssignableTo").run Tryz.prog w=.ok (320,.agg #[h]) w:=by kernel_rfl
theorem Tryz.aselem27 (w:World):(ReflectliteType.method ReflectliteType.elem #[.agg #[.pointer (some ⟨3,218,none⟩)]]).run Tryz.prog w=.ok (.iface 292 (.agg #[.pointer (some ⟨3,216,none⟩)])) w:=by kernel_rfl
theorem Tryz.asimplements25 (w:World):(ReflectliteType.relation "Implements" ReflectliteType.implements_ #[.agg #[.pointer (some ⟨3,216,none⟩)],.iface 292 (.agg #[.pointer (some ⟨3,179,none⟩)])]).run Tryz.prog w=.ok (.bool true) w:=by kernel_rfl
theorem Tryz.astypeOf25 (v:Value) (w:World):(ReflectliteType.typeOf #[.iface 216 v]).run Tryz.prog w=.ok (.iface 292 (.agg #[.pointer (some ⟨3,216,none⟩)])) w:=by kernel_rfl
theorem Tryz.asassignable25 (w:World):(ReflectliteType.relation "AssignableTo" ReflectliteType.assignableTo #[.agg #[.pointer (some ⟨3,216,none⟩)],.iface 292 (.agg #[.pointer (some ⟨3,216,none⟩)])]).run Tryz.prog w=.ok (.bool true) w:=by kernel_rfl
theorem Tryz.asvalueOf25 (n:Int) (w:World):(ReflectliteValue.unpack (.iface 216 (.agg #[.int .i64 n]))).run Tryz.prog w
  =.ok (.agg #[.pointer (some ⟨3,216,none⟩),.pointer (some ⟨w.heap.size,0,none⟩),.int .u64 153]) (w.alloc (.cells #[.int .i64 n] 216)):=by kernel_rfl
theorem Tryz.HR (w:World):(Rtype.elem? 218).run Tryz.prog w=.ok (some 216) w:=by kernel_rfl
theorem Tryz.SC (p:Addr) (w:World):(ReflectliteValue.mk 216 p ReflectliteValue.flagAddr).run Tryz.prog w=.ok (.agg #[.pointer (some ⟨3,216,none⟩),.pointer (some p),.int .u64 409]) w:=by kernel_rfl
theorem Tryz.aselemV27 (a p:Addr) (W:World) (ha:W.cell? a=some (.pointer (some p))):
  (ReflectliteValue.method (ReflectliteValue.valueError "reflectlite.Value.Elem" 0) ReflectliteValue.elem #[.agg #[.pointer (some ⟨3,218,none⟩),.pointer (some a),.int .u64 150]]).run Tryz.prog W
   =.ok (.agg #[.pointer (some ⟨3,216,none⟩),.pointer (some p),.int .u64 409]) W:=by
 rw[Yl]
 simp only[Sem.run_bind,Tryz.AL,Result.andThen]
 simp [ReflectliteValue.elem,loadVar,isAgg,underlying,Tryz.underlying218,ha,Result.andThen,Tryz.HR,Tryz.SC]
theorem rls (v x:Value):ReflectliteValue.set #[v,x]=(do
  let (some (dst,a,fl),some (src,b,_)):=(←ReflectliteValue.parts v,←ReflectliteValue.parts x)
   | unsupported (.noEntry "extern/(internal/reflectlite.Value).Set.zeroValue")
  if fl/ReflectliteValue.flagAddr%2==0 then unsupported (.noEntry "extern/(internal/reflectlite.Value).Set.unaddressable")
  let val←loadVar src b
  if←Rtype.directlyAssignable dst src then storeVar dst a val
  else if←Rtype.implements dst src then
   if (←Rtype.kind src)==20 then
    match val with
    | .nilIface=>unsupported (.noEntry "extern/reflectlite: a nil value of one interface type handed on as a value of another")
    | _=>storeVar dst a val
   else storeVar dst a (.iface src val)
  else panicString ("reflectlite.Set: value of type "++(←Rtype.spelt src)++ " is not assignable to type "++(←Rtype.spelt dst))
  pure (.tuple #[])):=rfl
theorem Tryz.HS (a:Addr) (w:World):(ReflectliteValue.parts (.agg #[.pointer (some ⟨3,216,none⟩),.pointer (some a),.int .u64 409])).run Tryz.prog w=.ok (some (216,a,409)) w:=by kernel_rfl
theorem Tryz.Kn (a:Addr) (w:World):(ReflectliteValue.parts (.agg #[.pointer (some ⟨3,216,none⟩),.pointer (some a),.int .u64 153])).run Tryz.prog w=.ok (some (216,a,153)) w:=by kernel_rfl
theorem Tryz.HT (w:World):(Rtype.directlyAssignable 216 216).run Tryz.prog w=.ok true w:=by kernel_rfl
theorem Tryz.asset25 (ta b:Addr) (n:Int) (old:Value) (W:World) (hb:W.cell? b=some (.int .i64 n)) (ht:W.cell? ta=some old) (hf:W.frozen? ta=false):
  (ReflectliteValue.set #[.agg #[.pointer (some ⟨3,216,none⟩),.pointer (some ta),.int .u64 409],.agg #[.pointer (some ⟨3,216,none⟩),.pointer (some b),.int .u64 153]]).run Tryz.prog W
   =.ok (.tuple #[]) (W.setCell ta (.int .i64 n)):=by
 have hl:(loadCells b 1).run Tryz.prog W=.ok #[.int .i64 n] W:=run_loadCells_list W b [Value.int .i64 n] (fun j v hj=>by
  cases j with
  | zero=>simp at hj;subst hj;simpa [Addr.add] using hb
  | succ j=>simp at hj)
 have hs:(storeVar 216 ta (.agg #[.int .i64 n])).run Tryz.prog W=.ok () (W.setCell ta (.int .i64 n)):=by
  simp [storeVar,Value.cells,storeCells,Addr.add,Result.andThen]
  rw[run_store Tryz.prog W ta _ _ (by rfl)]
  simp [ht,hf]
 rw[rls]
 simp only[Sem.run_bind,Tryz.HS,Tryz.Kn,Result.andThen]
 simp [ReflectliteValue.flagAddr,loadVar,isAgg,underlying,Tryz.underlying216,hl,Result.andThen,Tryz.HT,hs]
set_option maxRecDepth 100000 in
set_option maxHeartbeats 4000000 in
theorem SD (t:Addr) (n:Int) (old:Value) (w:World) (hg:w.cell? ⟨0,0,none⟩=some (.iface 292 (.agg #[.pointer (some ⟨3,179,none⟩)]))) (Ym:w.cell? t=some old) (hf0:w.frozen? t=false):
  Calls Tryz.prog 175 #[.iface 216 (.agg #[.int .i64 n]),.iface 218 (.pointer (some t))] w fun ev w'=>ev=.returned (.bool true)∧w'=((((w.alloc (.cells #[.pointer (some t)] 218)).alloc (.cells #[.pointer (some ⟨3,218,none⟩),.pointer (some ⟨w.heap.size,0,none⟩),.int .u64 150] 261)).alloc (.cells #[.pointer (some ⟨3,218,none⟩),.pointer (some ⟨w.heap.size,0,none⟩),.int .u64 150] 261)).alloc (.cells #[.int .i64 n] 216)).setCell t (.int .i64 n):=by
 have h6:=@run_callFunc_extern Tryz.prog 218 _ (fun args=>ReflectliteValue.unpack (args.getD 0 (.tuple #[]))) Tryz.func218 (by kernel_rfl) (by kernel_rfl) (by kernel_rfl) (by kernel_rfl)
 have h7:=@run_callFunc_extern Tryz.prog 219 _ (ReflectliteValue.methodAny (ReflectliteValue.valueError "reflectlite.Value.Type" 0) (fun t _ _ _=>ReflectliteType.toType t)) Tryz.func219 (by kernel_rfl) (by kernel_rfl) (by kernel_rfl) (by kernel_rfl)
 have h8:=@run_callFunc_extern Tryz.prog 220 _ (ReflectliteValue.method (ReflectliteValue.valueError "reflectlite.Value.IsNil" 0) ReflectliteValue.isNil) Tryz.func220 (by kernel_rfl) (by kernel_rfl) (by kernel_rfl) (by kernel_rfl)
 have h27:=@run_callFunc_extern Tryz.prog 296 _ (ReflectliteType.abiMethod fun t=>do pure (.int .u8 (←Rtype.kind t))) Tryz.func296 (by kernel_rfl) (by kernel_rfl) (by kernel_rfl) (by kernel_rfl)
 have h37:=@run_callFunc_extern Tryz.prog 322 _ (ReflectliteType.method ReflectliteType.elem) Tryz.func322 (by kernel_rfl) (by kernel_rfl) (by kernel_rfl) (by kernel_rfl)
 have h38:=@run_callFunc_extern Tryz.prog 323 _ (ReflectliteType.relation "Implements" ReflectliteType.implements_) Tryz.func323 (by kernel_rfl) (by kernel_rfl) (by kernel_rfl) (by kernel_rfl)
 have kg:=@run_callFunc_extern Tryz.prog 247 _ ReflectliteType.typeOf Tryz.func247 (by kernel_rfl) (by kernel_rfl) (by kernel_rfl) (by kernel_rfl)
 have h35:=@run_callFunc_extern Tryz.prog 320 _ (ReflectliteType.relation "AssignableTo" ReflectliteType.assignableTo) Tryz.func320 (by kernel_rfl) (by kernel_rfl) (by kernel_rfl) (by kernel_rfl)
 have h11:=@run_callFunc_extern Tryz.prog 248 _ (ReflectliteValue.method (ReflectliteValue.valueError "reflectlite.Value.Elem" 0) ReflectliteValue.elem) Tryz.func248 (by kernel_rfl) (by kernel_rfl) (by kernel_rfl) (by kernel_rfl)
 have h12:=@run_callFunc_extern Tryz.prog 249 _ ReflectliteValue.set Tryz.func249 (by kernel_rfl) (by kernel_rfl) (by kernel_rfl) (by kernel_rfl)
 have tO:=Tryz.astypeOf25
 have mA:=Tryz.asmethodAssignableTo
 have a25:=Tryz.asassignable25
 have v25:=Tryz.asvalueOf25
 have f6:=Tryz.asvalueOf27
 have f7:=Tryz.astype27
 have mK:=Tryz.asmethodKind
 have mE:=Tryz.asmethodElem
 have mI:=Tryz.asmethodImplements
 have k27:=Tryz.askind27
 have k25:=Tryz.askind25
 have Ko:=Tryz.aselem27
 have i25:=Tryz.asimplements25
 have n8:=Tryz.asisNil27 ⟨w.heap.size,0,none⟩ t ((w.alloc (.cells #[.pointer (some t)] 218)).alloc (.cells #[.pointer (some ⟨3,218,none⟩),.pointer (some ⟨w.heap.size,0,none⟩),.int .u64 150] 261)) (by simp)
 have bB:0<w.heap.size:=by
  rcases Nat.eq_zero_or_pos w.heap.size with h0 | h
  ·simp [World.cell?,h0] at hg
  ·exact h
 have X7:((w.alloc (.cells #[.pointer (some t)] 218)).alloc (.cells #[.pointer (some ⟨3,218,none⟩),.pointer (some ⟨w.heap.size,0,none⟩),.int .u64 150] 261)).cell? ⟨0,0,none⟩=some (.iface 292 (.agg #[.pointer (some ⟨3,179,none⟩)])):=by
  rw[World.cell?_alloc_lt _ _ ⟨0,0,none⟩ (by simp),World.cell?_alloc_lt _ _ ⟨0,0,none⟩ bB];exact hg
 have Yn:t.block<w.heap.size:=by
  rcases Nat.lt_or_ge t.block w.heap.size with h | h
  ·exact h
  ·simp [World.cell?,Array.getElem?_eq_none h] at Ym
 have el:=Tryz.aselemV27 ⟨w.heap.size,0,none⟩ t (((w.alloc (.cells #[.pointer (some t)] 218)).alloc (.cells #[.pointer (some ⟨3,218,none⟩),.pointer (some ⟨w.heap.size,0,none⟩),.int .u64 150] 261)).alloc (.cells #[.pointer (some ⟨3,218,none⟩),.pointer (some ⟨w.heap.size,0,none⟩),.int .u64 150] 261)) (by rw[World.cell?_alloc_lt _ _ ⟨w.heap.size,0,none⟩ (by simp;omega)];simp)
 have st:=Tryz.asset25 t ⟨w.heap.size+1+1+1,0,none⟩ n old ((((w.alloc (.cells #[.pointer (some t)] 218)).alloc (.cells #[.pointer (some ⟨3,218,none⟩),.pointer (some ⟨w.heap.size,0,none⟩),.int .u64 150] 261)).alloc (.cells #[.pointer (some ⟨3,218,none⟩),.pointer (some ⟨w.heap.size,0,none⟩),.int .u64 150] 261)).alloc (.cells #[.int .i64 n] 216))
  (by rw[World.cell?_alloc_at _ _ _ _ (by simp)];rfl)
  (by rw[World.cell?_alloc_lt _ _ t (by simp;omega),World.cell?_alloc_lt _ _ t (by simp;omega),World.cell?_alloc_lt _ _ t (by simp;omega),World.cell?_alloc_lt _ _ t Yn];exact Ym)
  (by rw[World.frozen?_alloc_old _ _ t (by simp;omega),World.frozen?_alloc_old _ _ t (by simp;omega),World.frozen?_alloc_old _ _ t (by simp;omega),World.frozen?_alloc_old _ _ t (Nat.ne_of_lt Yn)];exact hf0)
 go_enter Tryz.func175,Tryz.ntmps175
 go_wp2
 refine wp_loop_rounds 1 ?_
 rw[rounds_succ]
 go_wp2
 go_ret
 exact⟨rfl,rfl⟩
end Go.Proofs.YtbajncpfmemdgaaGreatDoor
end
section
namespace Go.Proofs.YtbajncpfmemdgaaGreatDoor
open Go.RowKit Go.Extern.Stop Go.Stop Go.Extern
theorem HU (w:World):Calls Tryz.prog 133 #[.nilIface] w fun e w'=>e=.returned (.int .i64 0)∧Below w.heap.size w w':=by
 go_enter Tryz.func133,Tryz.ntmps133
 go_wp2_with (first | (go_at_call 175;refine(SB _ _).mono ?_;rintro e w' ⟨rfl,rfl⟩))
 go_ret
 exact⟨rfl,(Below.refl _ _).alloc (Nat.le_refl _) _⟩
set_option maxRecDepth 100000 in
set_option maxHeartbeats 4000000 in
theorem HV (n:Int) (w:World) (hg:w.cell? ⟨0,0,none⟩=some (.iface 292 (.agg #[.pointer (some ⟨3,179,none⟩)]))):
  Calls Tryz.prog 133 #[.iface 216 (.agg #[.int .i64 n])] w fun e w'=>e=.returned (.int .i64 n)∧Below w.heap.size w w':=by
 have bB:0<w.heap.size:=by
  rcases Nat.eq_zero_or_pos w.heap.size with h0 | h
  ·simp [World.cell?,h0] at hg
  ·exact h
 have hgA:(w.alloc (.cells #[.int .i64 0] 216)).cell? ⟨0,0,none⟩=some (.iface 292 (.agg #[.pointer (some ⟨3,179,none⟩)])):=by
  rw[World.cell?_alloc_lt _ _ ⟨0,0,none⟩ bB];exact hg
 have htA:(w.alloc (.cells #[.int .i64 0] 216)).cell? ⟨w.heap.size,0,none⟩=some (.int .i64 0):=by simp
 have hfA:(w.alloc (.cells #[.int .i64 0] 216)).frozen? ⟨w.heap.size,0,none⟩=false:=by simp
 go_enter Tryz.func133,Tryz.ntmps133
 go_wp2_with (first | (go_at_call 175;refine(SD _ _ (.int .i64 0) _ hgA htA hfA).mono ?_;rintro e w' ⟨rfl,rfl⟩))
 go_ret
 refine⟨rfl,?_⟩
 repeat (first | exact Below.refl _ _ | refine Below.alloc ?_ (by simp;try omega) _)
end Go.Proofs.YtbajncpfmemdgaaGreatDoor
end
section
namespace Go.Proofs.YtbajncpfmemdgaaGreatDoor
open Go Go.Ev
class aC [Env]:Prop where
 h:((0,0,.iface 292 (.agg #[.pointer (some ⟨3,179,none⟩)])):Nat×Nat×Value)∈Env.laid
theorem CG (args:Array Value) (w:World):(callFunc 133 args).run Tryz.prog w=.ok (.enter 133 args) w:=oR (fn:=Tryz.f133) (by kernel_rfl) (by unfold Tryz.f133;rfl) (by kernel_rfl) args
section
variable [Env] {σ:St}
theorem Me:ag Tryz.prog 133 [.aV] (fun v σ'=>v=.int .i64 0∧σ'=σ) σ:=
 ag.Cy ⟨_,rfl⟩ fun ρ w vs' hr hv=>by
  cases hv with
  | cons h hl=>cases hl;cases h;exact⟨CG _ _,(HU w).mono fun e w' hx=>⟨_,_,rfl,hx.1,.int _ _,hx.2⟩⟩
theorem Mf [aC] {n:Int}:ag Tryz.prog 133 [.iface 216 (.agg [.int .i64 n])] (fun v σ'=>v=.int .i64 n∧σ'=σ) σ:=
 ag.Cy ⟨_,rfl⟩ fun ρ w vs' hr hv=>by
  cases hv with
  | cons h hl=>
   cases hl
   cases h with
   | iface h=>
    cases h with
    | agg h=>
     cases h with
     | cons h hl=>
      cases hl;cases h
      exact⟨CG _ _,(HV n w (hr.aL _ _ _ (hr.laid _ aC.h)).1).mono fun e w' hx=>⟨_,_,rfl,hx.1,.int _ _,hx.2⟩⟩
end
end Go.Proofs.YtbajncpfmemdgaaGreatDoor
end
section
namespace Go.Proofs.YtbajncpfmemdgaaGreatDoor
open Go Go.Ev
structure ay where
 f0:Int
 f1:Int
 f2:Int
 f3:(List UInt8)
 deriving Inhabited
def ay.cells (e:ay):List V:=[.int .i64 e.f0,.int .i64 e.f1,.int .u64 e.f2,.str e.f3]
def ay.enc (e:ay):V:=.agg e.cells
theorem ay.clean [Env] (e:ay):∀u∈e.cells,Go.Ev.Clean u:=ax (Go.Ev.Clean.int _ _) (ax (Go.Ev.Clean.int _ _) (ax (Go.Ev.Clean.int _ _) (ax (Go.Ev.Clean.str _) cz)))
theorem ay.size (e:ay):e.cells.length=4:=rfl
structure aj where
 f0:(List UInt8)
 f1:Int
 f2:Bool
 f3:ay
 deriving Inhabited
def aj.cells (e:aj):List V:=[.str e.f0,.int .i64 e.f1,.bool e.f2,.int .i64 e.f3.f0,.int .i64 e.f3.f1,.int .u64 e.f3.f2,.str e.f3.f3]
def aj.enc (e:aj):V:=.agg e.cells
theorem aj.clean [Env] (e:aj):∀u∈e.cells,Go.Ev.Clean u:=ax (Go.Ev.Clean.str _) (ax (Go.Ev.Clean.int _ _) (ax (Go.Ev.Clean.bool _) (ax (Go.Ev.Clean.int _ _) (ax (Go.Ev.Clean.int _ _) (ax (Go.Ev.Clean.int _ _) (ax (Go.Ev.Clean.str _) cz))))))
theorem aj.size (e:aj):e.cells.length=7:=rfl
structure aa where
 f0:(List UInt8)
 f1:Int
 f2:(List aj)
 deriving Inhabited
def aa.cells (e:aa):List V:=[.str e.f0,.int .i64 e.f1,ae aj.enc 7 e.f2]
def aa.enc (e:aa):V:=.agg e.cells
theorem aa.clean [Env] (e:aa):∀u∈e.cells,Go.Ev.Clean u:=ax (Go.Ev.Clean.str _) (ax (Go.Ev.Clean.int _ _) (ax (dp (enc:=aj.enc) fun x _=>aj.clean x) cz))
theorem aa.size (e:aa):e.cells.length=3:=rfl
def iB (c:Int):Int:=if c<128 then 1 else if c<194∨c>244 then 0 else if c<224 then 2 else if c<240 then 3 else 4
def sn (c:Int):Int:=if c<194∨c>244 then 0 else if c=224 then 160 else if c=240 then 144 else 128
def so (c:Int):Int:=if c<194∨c>244 then 0 else if c=237 then 159 else if c=244 then 143 else 191
noncomputable def mY (s:List UInt8):Int→Int→Nat→Nat→Bool
 | _,_,0,_=>true
 | lo,hi,k+1,i=>decide (i<s.length∧lo≤aH s i∧aH s i≤hi)&&mY s 128 191 k (i+1)
noncomputable def cW (s:List UInt8):Int:=if s.length=0 then 0 else if mY s (sn (aH s 0)) (so (aH s 0)) ((iB (aH s 0)).toNat-1) 1 then iB (aH s 0) else 0
noncomputable def eU:Nat→List UInt8→Bool
 | 0,s=>decide (s.length=0)
 | n+1,s=>if s.length=0 then true else if cW s=0 then false else eU n (s.drop (cW s).toNat)
def HW (x:Int):Int:=x/4503599627370496%2048
def O4 (x:Int):Int:=x%4503599627370496
def CI (x:Int):Prop:=HW x=2047∧O4 x≠0
instance (x:Int):Decidable (CI x):=inferInstanceAs (Decidable (_∧_))
def dR (x:Int):Int:=if CI x then 9221120237041090560 else x
def iS (v:ay):ay:=
 if v.f0=1∨v.f0=2 then⟨v.f0,v.f1,0,[]⟩ else if v.f0=3 then⟨v.f0,0,v.f2,[]⟩ else if v.f0=4∨v.f0=5 then⟨v.f0,0,0,v.f3⟩ else⟨v.f0,0,0,[]⟩
def jJ (v:ay):Prop:=(v.f1=0∨v.f0=1∨v.f0=2)∧(v.f2=0∨v.f0=3)∧(v.f3=[]∨v.f0=4∨v.f0=5)
instance (v:ay):Decidable (jJ v):=inferInstanceAs (Decidable (_∧_))
noncomputable def bZ (v:ay):Int:=
 if v.f0<0∨v.f0≥6 then 5 else if ¬jJ v then 4 else if v.f0=1∧v.f1≠0∧v.f1≠1 then 6
 else if dR v.f2≠v.f2 then 4 else if v.f3.length>64 then 2 else if v.f0=5∧eU v.f3.length v.f3=false then 7 else 0
def HX (c:Int):Bool:=decide (97≤c∧c≤122)
def HY (c:Int):Bool:=decide (48≤c∧c≤57∨c=95)
noncomputable def Bo (s:List UInt8):Nat→Bool
 | 0=>true
 | n+1=>Bo s n&&(HX (aH s n)||(decide (n≠0)&&HY (aH s n)))
noncomputable def aD (s:List UInt8):Int:=if s.length=0∨s.length>16 then 8 else if Bo s s.length=true then 0 else 8
def j7 (s:List UInt8) (q:Nat→List UInt8):Nat→Int
 | 0=>0
 | n+1=>j7 s q n+if q n=s then 1 else 0
def cd (s:List UInt8) (q:Nat→List UInt8):Nat→Int
 | 0=> -1
 | n+1=>if cd s q n≠ -1 then cd s q n else if q n=s then n else -1
def gX (q:Nat→List UInt8):Nat→Bool
 | 0=>true
 | n+1=>gX q n&&decide (cd (q n) q n= -1)
def eS (q:Nat→aj):Nat→Bool
 | 0=>false
 | n+1=>eS q n||(q n).f2
noncomputable def bR (c:aj):Int:=
 if aD c.f0≠0 then aD c.f0 else if c.f1<1∨c.f1>5 then 5 else if bZ c.f3≠0 then bZ c.f3 else if c.f3.f0≠0∧c.f3.f0≠c.f1 then 11 else 0
def c9 (f:Nat→Int):Nat→Int
 | 0=>0
 | n+1=>if c9 f n≠0 then c9 f n else f n
noncomputable def bu (t:aa):Int:=
 if aD t.f0≠0 then aD t.f0 else if t.f2.length<1∨t.f2.length>8 then 2 else if t.f1<1∨t.f1>3∨t.f1>t.f2.length then 1
 else if c9 (fun i=>bR (t.f2.getD i default)) t.f2.length≠0 then c9 (fun i=>bR (t.f2.getD i default)) t.f2.length
 else if gX (fun i=>(t.f2.getD i default).f0) t.f2.length=false then 12 else if eS (fun i=>t.f2.getD i default) t.f1.toNat=true then 11 else 0
def zr (v:ay):Prop:=0≤v.f2∧v.f2<18446744073709551616
def tT (c:aj):Prop:=zr c.f3
def gH (t:aa):Prop:=∀c∈t.f2,tT c
def O5 [Env] (g:FuncId) (vs:List V) (σ:St) (k:ah):Prop:=False
def ES:Nat→List Nat:=(fun _=>[])
theorem ZW [Env] (A:Nat→List SV→Prop) (Q:V→Prop) (c:Int):WE Tryz.prog 273 Tryz.f273 O5 0 ES A (fun v _=>Q v) [.int .u8 c] Go.Ev.start=
  (((.u8:IntKind)=.u8∧af (decide (c<(128:Int))) (Q (.tuple [.int .i64 (1:Int),.int .i64 (IntKind.i64.wrap c),.int .u8 (0:Int),.int .u8 (0:Int)])) (((.u8:IntKind)=.u8∧af (decide (c<(194:Int))) (Q (.tuple [.int .i64 (0:Int),.int .i64 (0:Int),.int .u8 (0:Int),.int .u8 (0:Int)])) (((.u8:IntKind)=.u8∧af (decide (c>(244:Int))) (Q (.tuple [.int .i64 (0:Int),.int .i64 (0:Int),.int .u8 (0:Int),.int .u8 (0:Int)])) (((.u8:IntKind)=.u8∧af (decide (c<(224:Int))) (Q (.tuple [.int .i64 (2:Int),.int .i64 (IntKind.i64.wrap (IntKind.u8.wrap (BitVec.ofInt IntKind.u8.bits c&&& BitVec.ofInt IntKind.u8.bits (31:Int)).toNat)),.int .u8 (128:Int),.int .u8 (191:Int)])) (((.u8:IntKind)=.u8∧af (decide (c=(224:Int))) (Q (.tuple [.int .i64 (3:Int),.int .i64 (0:Int),.int .u8 (160:Int),.int .u8 (191:Int)])) (((.u8:IntKind)=.u8∧af (decide (c=(237:Int))) (Q (.tuple [.int .i64 (3:Int),.int .i64 (IntKind.i64.wrap (IntKind.u8.wrap (BitVec.ofInt IntKind.u8.bits c&&& BitVec.ofInt IntKind.u8.bits (15:Int)).toNat)),.int .u8 (128:Int),.int .u8 (159:Int)])) (((.u8:IntKind)=.u8∧af (decide (c<(240:Int))) (Q (.tuple [.int .i64 (3:Int),.int .i64 (IntKind.i64.wrap (IntKind.u8.wrap (BitVec.ofInt IntKind.u8.bits c&&& BitVec.ofInt IntKind.u8.bits (15:Int)).toNat)),.int .u8 (128:Int),.int .u8 (191:Int)])) (((.u8:IntKind)=.u8∧af (decide (c=(240:Int))) (Q (.tuple [.int .i64 (4:Int),.int .i64 (0:Int),.int .u8 (144:Int),.int .u8 (191:Int)])) (((.u8:IntKind)=.u8∧af (decide (c=(244:Int))) (Q (.tuple [.int .i64 (4:Int),.int .i64 (4:Int),.int .u8 (128:Int),.int .u8 (143:Int)])) (Q (.tuple [.int .i64 (4:Int),.int .i64 (IntKind.i64.wrap (IntKind.u8.wrap (BitVec.ofInt IntKind.u8.bits c&&& BitVec.ofInt IntKind.u8.bits (7:Int)).toNat)),.int .u8 (128:Int),.int .u8 (191:Int)])))))))))))))))))))):=by kernel_rfl
def Mg [Env] (vs:List V) (σ:St) (k:ah):Prop:=
 match vs with
 | [.int .u8 c]=>(0≤c∧c<256)∧∀r:Int,k (.tuple [.int .i64 (iB c),.int .i64 r,.int .u8 (sn c),.int .u8 (so c)]) σ
 | _=>False
def Kp [Env]:=kS 273 Mg O5
def zt:Nat→List Nat:=(fun i=>match i with | 0=>[0,5,6,7,8,9,10] | _=>[])
theorem ZX [Env] (A:Nat→List SV→Prop) (Q:V→Prop) (s:List UInt8):WE Tryz.prog 260 Tryz.f260 Kp 0 zt A (fun v _=>Q v) [.str s] Go.Ev.start=
  (af (decide (s=[])) (Q (.tuple [.int .i64 (0:Int),.int .i64 (0:Int),.int .i64 (3:Int)])) (((0≤(0:Int)∧(0:Int)<((len s:Nat):Int))∧((0≤(jb s (0:Int))∧(jb s (0:Int))<256)∧∀r1:Int,((.i64:IntKind)=.i64∧af (decide ((iB (jb s (0:Int)))=(0:Int))) (Q (.tuple [.int .i64 (0:Int),.int .i64 (0:Int),.int .i64 (7:Int)])) (A 0 [.val (.str s),.val (.int .i64 (iB (jb s (0:Int)))),.val (.int .i64 r1),.val (.int .u8 (sn (jb s (0:Int)))),.val (.int .u8 (so (jb s (0:Int)))),.val (.int .i64 (0:Int)),.val (.int .i64 (1:Int))])))))):=by kernel_rfl
theorem ZY [Env] (A:Nat→List SV→Prop) (Q:V→Prop) (s:List UInt8) (w r lo hi i:Int):WL Tryz.prog 260 Tryz.f260 Kp 0 zt A (fun v _=>Q v) 0 [.val (.str s),.val (.int .i64 w),.val (.int .i64 r),.val (.int .u8 lo),.val (.int .u8 hi),.val (.int .i64 (0:Int)),.val (.int .i64 i)]=
  (((.i64:IntKind)=.i64∧af (decide (i<w)) (((.i64:IntKind)=.i64∧af (decide (i≥(((len s:Nat):Int)))) (((.i64:IntKind)=.i64∧Q (.tuple [.int .i64 (0:Int),.int .i64 (0:Int),.int .i64 (3:Int)]))) (((0≤i∧i<((len s:Nat):Int))∧((.u8:IntKind)=.u8∧af (decide ((jb s i)<lo)) (((.i64:IntKind)=.i64∧Q (.tuple [.int .i64 (0:Int),.int .i64 (0:Int),.int .i64 (7:Int)]))) (((0≤i∧i<((len s:Nat):Int))∧((.u8:IntKind)=.u8∧af (decide ((jb s i)>hi)) (((.i64:IntKind)=.i64∧Q (.tuple [.int .i64 (0:Int),.int .i64 (0:Int),.int .i64 (7:Int)]))) ((0≤(6:Int)∧((0≤i∧i<((len s:Nat):Int))∧A 0 [.val (.str s),.val (.int .i64 w),.val (.int .i64 (IntKind.i64.wrap (BitVec.ofInt IntKind.i64.bits (IntKind.i64.wrap (r*2^min (6:Int).toNat IntKind.i64.bits))||| BitVec.ofInt IntKind.i64.bits (IntKind.i64.wrap (IntKind.u8.wrap (BitVec.ofInt IntKind.u8.bits (jb s i)&&& BitVec.ofInt IntKind.u8.bits (63:Int)).toNat))).toNat)),.val (.int .u8 (128:Int)),.val (.int .u8 (191:Int)),.val (.int .i64 (0:Int)),.val (.int .i64 (IntKind.i64.wrap (i+(1:Int))))]))))))))))) (((.i64:IntKind)=.i64∧Q (.tuple [.int .i64 r,.int .i64 w,.int .i64 (0:Int)]))))):=by kernel_rfl
def Mh [Env] (vs:List V) (σ:St) (k:ah):Prop:=
 match vs with
 | [.str s]=>(cW s≠0→∀r:Int,k (.tuple [.int .i64 r,.int .i64 (cW s),.int .i64 0]) σ)∧(cW s=0→∀e:Int,e≠0→k (.tuple [.int .i64 0,.int .i64 0,.int .i64 e]) σ)
 | _=>False
def Kq [Env]:=kS 260 Mh Kp
def zu:Nat→List Nat:=(fun i=>match i with | 0=>[0,3] | _=>[])
theorem ZZ [Env] (A:Nat→List SV→Prop) (Q:V→Prop) (s:List UInt8):WE Tryz.prog 235 Tryz.f235 Kq 0 zu A (fun v _=>Q v) [.str s] Go.Ev.start=
  (A 0 [.val (.str s),.val (.int .i64 (0:Int))]):=by kernel_rfl
theorem Z0 [Env] (A:Nat→List SV→Prop) (Q:V→Prop) (s:List UInt8) (i:Int):WL Tryz.prog 235 Tryz.f235 Kq 0 zu A (fun v _=>Q v) 0 [.val (.str s),.val (.int .i64 i)]=
  (af (decide (s≠[])) (((cW s≠0→∀r2:Int,((.i64:IntKind)=.i64∧((0≤(cW s)∧(cW s)≤((len s:Nat):Int)∧((len s:Nat):Int)≤((len s:Nat):Int))∧A 0 [.val (.str (dq (cW s).toNat (dB s ((len s:Nat):Int).toNat))),.val (.int .i64 (IntKind.i64.wrap (i+(1:Int))))])))∧(cW s=0→∀e3:Int,e3≠0→((.i64:IntKind)=.i64∧af (decide (e3≠(0:Int))) (Q (.int .i64 (-1:Int))) (((0≤(0:Int)∧(0:Int)≤((len s:Nat):Int)∧((len s:Nat):Int)≤((len s:Nat):Int))∧A 0 [.val (.str (dq (0:Int).toNat (dB s ((len s:Nat):Int).toNat))),.val (.int .i64 (IntKind.i64.wrap (i+(1:Int))))])))))) (Q (.int .i64 i))):=by kernel_rfl
def Mi [Env] (vs:List V) (σ:St) (k:ah):Prop:=
 match vs with
 | [.str s]=>s.length≤64∧∀c:Int,(0≤c↔eU s.length s=true)→k (.int .i64 c) σ
 | _=>False
def O6 [Env]:=kS 235 Mi Kq
def ET:Nat→List Nat:=(fun _=>[])
theorem Z1 [Env] (A:Nat→List SV→Prop) (Q:V→Prop) (s:List UInt8):WE Tryz.prog 195 Tryz.f195 O6 0 ET A (fun v _=>Q v) [.str s] Go.Ev.start=
  ((s.length≤64∧∀c4:Int,(0≤c4↔eU s.length s=true)→((.i64:IntKind)=.i64∧af (decide (c4≥(0:Int))) (Q (.bool true)) (Q (.bool false))))):=by kernel_rfl
def Mj [Env] (vs:List V) (σ:St) (k:ah):Prop:=
 match vs with
 | [.str s]=>s.length≤64∧k (.bool (eU s.length s)) σ
 | _=>False
def O7 [Env]:=kS 195 Mj O6
end Go.Proofs.YtbajncpfmemdgaaGreatDoor
end
section
namespace Go.Proofs.YtbajncpfmemdgaaGreatDoor
open Go Go.Ev
def EU:Nat→List Nat:=(fun _=>[])
theorem Z2 [Env] (A:Nat→List SV→Prop) (Q:V→Prop) (x:Int):WE Tryz.prog 194 Tryz.f194 O7 0 EU A (fun v _=>Q v) [.int .u64 x] Go.Ev.start=
  (af (FloatKind.f64.format.order x.toNat x.toNat != some .eq) (Q (.int .u64 (9221120237041090560:Int))) (Q (.int .u64 x))):=by kernel_rfl
def Mk [Env] (vs:List V) (σ:St) (k:ah):Prop:=
 match vs with
 | [.int .u64 x]=>(0≤x∧x<18446744073709551616)∧k (.int .u64 (dR x)) σ
 | _=>False
def O8 [Env]:=kS 194 Mk O7
def EV:Nat→List Nat:=(fun _=>[])
theorem Z3 [Env] (A:Nat→List SV→Prop) (Q:V→Prop) (e:ay):WE Tryz.prog 193 Tryz.f193 O8 0 EV A (fun v _=>Q v) [ay.enc e] Go.Ev.start=
  (((.i64:IntKind)=.i64∧af (decide (e.f0=(1:Int))) (Q (.agg [.int .i64 e.f0,.int .i64 e.f1,.int .u64 (0:Int),.str ([])])) (((.i64:IntKind)=.i64∧af (decide (e.f0=(2:Int))) (Q (.agg [.int .i64 e.f0,.int .i64 e.f1,.int .u64 (0:Int),.str ([])])) (((.i64:IntKind)=.i64∧af (decide (e.f0=(3:Int))) (Q (.agg [.int .i64 e.f0,.int .i64 (0:Int),.int .u64 e.f2,.str ([])])) (((.i64:IntKind)=.i64∧af (decide (e.f0=(4:Int))) (Q (.agg [.int .i64 e.f0,.int .i64 (0:Int),.int .u64 (0:Int),.str e.f3])) (((.i64:IntKind)=.i64∧af (decide (e.f0=(5:Int))) (Q (.agg [.int .i64 e.f0,.int .i64 (0:Int),.int .u64 (0:Int),.str e.f3])) (Q (.agg [.int .i64 e.f0,.int .i64 (0:Int),.int .u64 (0:Int),.str ([])])))))))))))):=by kernel_rfl
def Ml [Env] (vs:List V) (σ:St) (k:ah):Prop:=
 match vs with
 | [.agg [.int .i64 a,.int .i64 b,.int .u64 c,.str s]]=>k (ay.enc (iS ⟨a,b,c,s⟩)) σ
 | _=>False
def O9 [Env]:=kS 193 Ml O8
def EW:Nat→List Nat:=(fun _=>[])
abbrev Pa [Env] (A:Nat→List SV→Prop) (Q:V→Prop) (e:ay):Prop:=
 ((0≤e.f2∧e.f2<18446744073709551616)∧af (V.beq (.int .u64 e.f2) (.int .u64 e.f2)&&true) (((.u64:IntKind)=.u64∧af (decide ((dR e.f2)≠e.f2)) (Q (.int .i64 (4:Int))) (((.i64:IntKind)=.i64∧af (decide ((((len e.f3:Nat):Int))>(64:Int))) (Q (.int .i64 (2:Int))) (((.i64:IntKind)=.i64∧af (decide (e.f0=(5:Int))) ((e.f3.length≤64∧af ((!(eU e.f3.length e.f3))) (Q (.int .i64 (7:Int))) (Q (.int .i64 (0:Int))))) (Q (.int .i64 (0:Int))))))))) False)
theorem Z4 [Env] (A:Nat→List SV→Prop) (Q:V→Prop) (e:ay):WE Tryz.prog 148 Tryz.f148 O9 0 EW A (fun v _=>Q v) [ay.enc e] Go.Ev.start=
  (((.i64:IntKind)=.i64∧af (decide (e.f0<(0:Int))) (Q (.int .i64 (5:Int))) (((.i64:IntKind)=.i64∧af (decide (e.f0≥(6:Int))) (Q (.int .i64 (5:Int))) (af (V.beq (.agg [.int .i64 e.f0,.int .i64 e.f1,.int .u64 e.f2,.str e.f3]) (.agg [.int .i64 e.f0,.int .i64 e.f1,.int .u64 e.f2,.str e.f3])&&true) (((.i64:IntKind)=.i64∧af (decide (((iS ⟨e.f0,e.f1,e.f2,e.f3⟩).f0)=e.f0)) (((.i64:IntKind)=.i64∧af (decide (((iS ⟨e.f0,e.f1,e.f2,e.f3⟩).f1)=e.f1)) (((.u64:IntKind)=.u64∧af (decide (((iS ⟨e.f0,e.f1,e.f2,e.f3⟩).f2)=e.f2)) (af (decide (((iS ⟨e.f0,e.f1,e.f2,e.f3⟩).f3)=e.f3)) (((.i64:IntKind)=.i64∧af (decide (e.f0=(1:Int))) (((.i64:IntKind)=.i64∧af (decide (e.f1≠(0:Int))) (((.i64:IntKind)=.i64∧af (decide (e.f1≠(1:Int))) (Q (.int .i64 (6:Int))) ((Pa A Q e)))) ((Pa A Q e)))) ((Pa A Q e)))) (Q (.int .i64 (4:Int)))) (Q (.int .i64 (4:Int))))) (Q (.int .i64 (4:Int))))) (Q (.int .i64 (4:Int))))) False))))):=by kernel_rfl
def Mm [Env] (vs:List V) (σ:St) (k:ah):Prop:=
 match vs with
 | [.agg [.int .i64 a,.int .i64 b,.int .u64 c,.str s]]=>(0≤c∧c<18446744073709551616)∧k (.int .i64 (bZ ⟨a,b,c,s⟩)) σ
 | _=>False
def EX [Env]:=kS 148 Mm O9
def vm:Nat→List Nat:=(fun i=>match i with | 0=>[15,16,17] | _=>[])
theorem SE [Env] (A:Nat→List SV→Prop) (Q:V→Prop) (s:List UInt8):WE Tryz.prog 176 Tryz.f176 EX 0 vm A (fun v _=>Q v) [.str s] Go.Ev.start=
  (af (decide (s=[])) (Q (.int .i64 (8:Int))) (((.i64:IntKind)=.i64∧af (decide ((((len s:Nat):Int))>(16:Int))) (Q (.int .i64 (8:Int))) ((len s≤1099511627776∧(((len s)=(len s)∧1=1)∧A 0 [.row (len s) (dx s) 1,.val (.int .i64 (((len s:Nat):Int))),.val (.int .i64 (0:Int))])))))):=by kernel_rfl
abbrev SF [Env] (A:Nat→List SV→Prop) (Q:V→Prop) (s:List UInt8) (n i:Int):Prop:=
 ((.u8:IntKind)=.u8∧af (decide ((aH s i.toNat)=(95:Int))) (((.i64:IntKind)=.i64∧af (decide (i=(0:Int))) (Q (.int .i64 (8:Int))) ((((len s)=(len s)∧1=1)∧A 0 [.row (len s) (dx s) 1,.val (.int .i64 n),.val (.int .i64 (IntKind.i64.wrap (i+(1:Int))))])))) (((.i64:IntKind)=.i64∧af (decide (i=(0:Int))) (Q (.int .i64 (8:Int))) (Q (.int .i64 (8:Int))))))
abbrev SG [Env] (A:Nat→List SV→Prop) (Q:V→Prop) (s:List UInt8) (n i:Int):Prop:=
 ((.u8:IntKind)=.u8∧af (decide ((aH s i.toNat)≥(48:Int))) (((.u8:IntKind)=.u8∧af (decide ((aH s i.toNat)≤(57:Int))) (((.i64:IntKind)=.i64∧af (decide (i=(0:Int))) (Q (.int .i64 (8:Int))) ((((len s)=(len s)∧1=1)∧A 0 [.row (len s) (dx s) 1,.val (.int .i64 n),.val (.int .i64 (IntKind.i64.wrap (i+(1:Int))))])))) ((SF A Q s n i)))) ((SF A Q s n i)))
abbrev SH [Env] (A:Nat→List SV→Prop) (Q:V→Prop) (s:List UInt8) (n i:Int):Prop:=
 ((.u8:IntKind)=.u8∧af (decide ((aH s i.toNat)=(95:Int))) ((((len s)=(len s)∧1=1)∧A 0 [.row (len s) (dx s) 1,.val (.int .i64 n),.val (.int .i64 (IntKind.i64.wrap (i+(1:Int))))])) ((((len s)=(len s)∧1=1)∧A 0 [.row (len s) (dx s) 1,.val (.int .i64 n),.val (.int .i64 (IntKind.i64.wrap (i+(1:Int))))])))
theorem Z5 [Env] (A:Nat→List SV→Prop) (Q:V→Prop) (s:List UInt8) (n i:Int):WL Tryz.prog 176 Tryz.f176 EX 0 vm A (fun v _=>Q v) 0 [.row (len s) (dx s) 1,.val (.int .i64 n),.val (.int .i64 i)]=
  (((.i64:IntKind)=.i64∧af (decide (i<n)) (((0≤i∧i<((len s:Nat):Int))∧(i.toNat<len s∧((.u8:IntKind)=.u8∧af (decide ((aH s i.toNat)≥(97:Int))) (((.u8:IntKind)=.u8∧af (decide ((aH s i.toNat)≤(122:Int))) (((.u8:IntKind)=.u8∧af (decide ((aH s i.toNat)≥(48:Int))) (((.u8:IntKind)=.u8∧af (decide ((aH s i.toNat)≤(57:Int))) ((((len s)=(len s)∧1=1)∧A 0 [.row (len s) (dx s) 1,.val (.int .i64 n),.val (.int .i64 (IntKind.i64.wrap (i+(1:Int))))])) ((SH A Q s n i)))) ((SH A Q s n i)))) ((SG A Q s n i)))) ((SG A Q s n i)))))) (Q (.int .i64 (0:Int))))):=by kernel_rfl
def Mn [Env] (vs:List V) (σ:St) (k:ah):Prop:=
 match vs with
 | [.str s]=>k (.int .i64 (aD s)) σ
 | _=>False
def Kr [Env]:=kS 176 Mn EX
def zw:Nat→List Nat:=(fun i=>match i with | 0=>[0,5,8,9,10] | _=>[])
theorem Z6 [Env] (A:Nat→List SV→Prop) (Q:V→Prop) (s:List UInt8) (n:Nat) (h:Nat→List UInt8):WE Tryz.prog 222 Tryz.f222 Kr 0 zw A (fun v _=>Q v) [.str s,V.arr n (fun i=>V.str (h i)) 1 false false] Go.Ev.start=
  (A 0 [.val (.str s),.val (.int .i64 (0:Int)),.val (V.arr n (fun i=>V.str (h i)) 1 false false),.val (.int .i64 (((n:Nat):Int))),.val (.int .i64 (0:Int))]):=by kernel_rfl
theorem Z7 [Env] (A:Nat→List SV→Prop) (Q:V→Prop) (s:List UInt8) (n:Nat) (h:Nat→List UInt8) (c m i:Int):WL Tryz.prog 222 Tryz.f222 Kr 0 zw A (fun v _=>Q v) 0 [.val (.str s),.val (.int .i64 c),.val (V.arr n (fun i=>V.str (h i)) 1 false false),.val (.int .i64 m),.val (.int .i64 i)]=
  (((.i64:IntKind)=.i64∧af (decide (i<m)) (((0≤i∧i<((n:Nat):Int))∧af (decide ((h i.toNat)=s)) (A 0 [.val (.str s),.val (.int .i64 (IntKind.i64.wrap (c+(1:Int)))),.val (V.arr n (fun i=>V.str (h i)) 1 false false),.val (.int .i64 m),.val (.int .i64 (IntKind.i64.wrap (i+(1:Int))))]) (A 0 [.val (.str s),.val (.int .i64 c),.val (V.arr n (fun i=>V.str (h i)) 1 false false),.val (.int .i64 m),.val (.int .i64 (IntKind.i64.wrap (i+(1:Int))))]))) (Q (.int .i64 c)))):=by kernel_rfl
def Mo [Env] (vs:List V) (σ:St) (k:ah):Prop:=
 match vs with
 | [.str s,.arr n f 1 false false]=>∃q:Nat→List UInt8,f=(fun i=>V.str (q i))∧n≤1000000∧k (.int .i64 (j7 s q n)) σ
 | _=>False
def Ks [Env]:=kS 222 Mo Kr
def zx:Nat→List Nat:=(fun i=>match i with | 0=>[0,5,6,7] | _=>[])
theorem Z8 [Env] (A:Nat→List SV→Prop) (Q:V→Prop) (n:Nat) (h:Nat→List UInt8):WE Tryz.prog 178 Tryz.f178 Ks 0 zx A (fun v _=>Q v) [V.arr n (fun i=>V.str (h i)) 1 false false] Go.Ev.start=
  (A 0 [.val (V.arr n (fun i=>V.str (h i)) 1 false false),.val (V.arr n (fun i=>V.str (h i)) 1 false false),.val (.int .i64 (((n:Nat):Int))),.val (.int .i64 (0:Int))]):=by kernel_rfl
theorem Z9 [Env] (A:Nat→List SV→Prop) (Q:V→Prop) (n:Nat) (h:Nat→List UInt8) (m i:Int):WL Tryz.prog 178 Tryz.f178 Ks 0 zx A (fun v _=>Q v) 0 [.val (V.arr n (fun i=>V.str (h i)) 1 false false),.val (V.arr n (fun i=>V.str (h i)) 1 false false),.val (.int .i64 m),.val (.int .i64 i)]=
  (((.i64:IntKind)=.i64∧af (decide (i<m)) (((0≤i∧i<((n:Nat):Int))∧(∃q:Nat→List UInt8,(fun i=>V.str (h i))=(fun i=>V.str (q i))∧n≤1000000∧((.i64:IntKind)=.i64∧af (decide ((j7 ((h i.toNat)) q n)>(1:Int))) (Q (.bool false)) (A 0 [.val (V.arr n (fun i=>V.str (h i)) 1 false false),.val (V.arr n (fun i=>V.str (h i)) 1 false false),.val (.int .i64 m),.val (.int .i64 (IntKind.i64.wrap (i+(1:Int))))]))))) (Q (.bool true)))):=by kernel_rfl
def Mp [Env] (vs:List V) (σ:St) (k:ah):Prop:=
 match vs with
 | [.arr n f 1 false false]=>∃q:Nat→List UInt8,f=(fun i=>V.str (q i))∧n≤1000000∧k (.bool (gX q n)) σ
 | _=>False
def CJ [Env]:=kS 178 Mp Ks
def CK:Nat→List Nat:=(fun i=>match i with | 0=>[0,1,5] | _=>[])
theorem e42 [Env] (A:Nat→List SV→Prop) (Q:V→Prop) (n:Nat) (h:Nat→List UInt8) (s:List UInt8):WE Tryz.prog 42 Tryz.f42 CJ 0 CK A (fun v _=>Q v) [V.arr n (fun i=>V.str (h i)) 1 false false,.str s] Go.Ev.start=
  (A 0 [.val (V.arr n (fun i=>V.str (h i)) 1 false false),.val (.str s),.val (.int .i64 (0:Int))]):=by kernel_rfl
theorem r42 [Env] (A:Nat→List SV→Prop) (Q:V→Prop) (n:Nat) (h:Nat→List UInt8) (s:List UInt8) (i:Int):WL Tryz.prog 42 Tryz.f42 CJ 0 CK A (fun v _=>Q v) 0 [.val (V.arr n (fun i=>V.str (h i)) 1 false false),.val (.str s),.val (.int .i64 i)]=
  (((.i64:IntKind)=.i64∧af (decide (i<(((n:Nat):Int)))) (((0≤i∧i<((n:Nat):Int))∧af (decide ((h i.toNat)=s)) (Q (.int .i64 i)) (A 0 [.val (V.arr n (fun i=>V.str (h i)) 1 false false),.val (.str s),.val (.int .i64 (IntKind.i64.wrap (i+(1:Int))))]))) (Q (.int .i64 (-1:Int))))):=by kernel_rfl
def SI [Env] (vs:List V) (σ:St) (k:ah):Prop:=
 match vs with
 | [.arr n f 1 false false,.str s]=>∃q:Nat→List UInt8,f=(fun i=>V.str (q i))∧n≤1000000∧k (.int .i64 (cd s q n)) σ
 | _=>False
def CL [Env]:=kS 42 SI CJ
end Go.Proofs.YtbajncpfmemdgaaGreatDoor
end
