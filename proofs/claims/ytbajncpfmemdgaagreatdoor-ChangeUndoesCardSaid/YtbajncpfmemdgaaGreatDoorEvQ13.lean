/- Proved: parts of the way: Tree, Pure, As, As2, S133, BEq1, BEq2. -/
import Derived.Test.YtbajncpfmemdgaaGreatDoorEvQ11
import Derived.ChangeSame
import Derived.Test.YtbajncpfmemdgaaGreatDoorEvQ12
import Derived.Test.YtbajncpfmemdgaaGreatDoorProg
import Derived.WalkKit
import Derived.LaidEql
import Derived.Stop.Asserts
import Derived.RowKitTokens
import Derived.ProofKit
set_option linter.unusedVariables false
set_option linter.unusedSimpArgs false
section
namespace Go.Ev
open Go
def gR (w:World):Ren:=⟨fun _=>none,fun c o=>w.cell? ⟨c,o,none⟩⟩
theorem et (b:Nat):start.heap.get b=none:=Trie.eG b
theorem xN [Env] (w:World) (hl:∀q∈Env.laid,w.cell? ⟨q.1,q.2.1,none⟩=some q.2.2):R (gR w) start w:=
 ⟨fun b k h=>(by rw[et] at h;cases h),fun b b' k k' l l' h=>(by rw[et] at h;cases h),fun _ _=>rfl,fun b l h=>(by cases h),
  fun c o x h=>⟨h,(by rintro⟨b,k,l,hb,_⟩;rw[et] at hb;cases hb)⟩,hl⟩
def pz (P:Program):List Field→Nat→Nat→Bool
 | [],acc,n=>acc==n
 | f::l,acc,n=>f.offset==acc&&pz P l (acc+P.cellsOf f.type) n
def j8 (P:Program):Nat→TypeId→Bool
 | 0,_=>false
 | d+1,t=>match P.underlying t with
  | some .bool | some (.int _) | some .string=>true
  | some (.slice e)=>Nat.blt 0 (P.cellsOf e)&&j8 P d e
  | some (.struct fs)=>pz P fs.toList 0 (P.cellsOf t)&&fs.toList.all fun f=>j8 P d f.type
  | _=>false
def isAgg (P:Program) (t:TypeId):Bool:=
 match P.underlying t with
 | some (.struct _) | some (.array _ _)=>true
 | _=>false
def pZ (P:Program) (t:TypeId) (us:List V):V:=if isAgg P t then .agg us else us.headD cO
def Hc (r:TypeId→List V→Prop):List Field→List (List V)→Prop
 | [],[]=>True
 | f::fs,p::ps=>r f.type p∧Hc r fs ps
 | _,_=>False
def b9 (P:Program):Nat→TypeId→List V→Prop
 | 0,_,_=>False
 | d+1,t,us=>match P.underlying t with
  | some .bool=>∃b,us=[.bool b]
  | some (.int k)=>∃n,us=[.int k n]∧(Lit.int k n).wf=true
  | some .string=>∃s,us=[.str s]∧s.length≤maxLen
  | some (.slice e)=>∃es:List (List V),us=[.bj (es.map (pZ P e)) (P.cellsOf e) false]∧es.length≤maxLen∧∀x∈es,b9 P d e x
  | some (.struct fs)=>∃ps:List (List V),us=ps.flatten∧Hc (b9 P d) fs.toList ps
  | _=>False
theorem b9.cells {P:Program} {d:Nat} {t:TypeId} {us:List V} (h:b9 P d t us):(pZ P t us).cells=us:=by
 cases d with
 | zero=>exact h.elim
 | succ d=>
  unfold b9 at h
  unfold pZ isAgg
  split at h
  ·rename_i hu;obtain⟨b,rfl⟩:=h;rw[hu];rfl
  ·rename_i hu;obtain⟨b,rfl,_⟩:=h;rw[hu];rfl
  ·rename_i hu;obtain⟨b,rfl,_⟩:=h;rw[hu];rfl
  ·rename_i hu;obtain⟨b,rfl,_⟩:=h;rw[hu];rfl
  ·rename_i hu;rw[hu];rfl
  ·exact h.elim
theorem oK {α β:Type} {f:α→Option β}:∀ {l:List α} {r:List β},l.mapM f=some r→r.length=l.length∧∀(i:Nat) x,l[i]? =some x→∃y,r[i]? =some y∧f x=some y
 | [],r,h=>by
  simp only[List.mapM_nil] at h
  cases h
  exact⟨rfl,fun i x hx=>by simp at hx⟩
 | a::l,r,h=>by
  rw[List.mapM_cons] at h
  simp only[Option.bind_eq_bind,Option.bind_eq_some_iff,Option.pure_def] at h
  obtain⟨y,hy,r',gr,he⟩:=h
  cases he
  obtain⟨h1,h2⟩:=oK gr
  refine⟨by simp [h1],fun i x hx=>?_⟩
  cases i with
  | zero=>simp at hx;subst hx;exact⟨y,rfl,hy⟩
  | succ i=>exact h2 i x (by simpa using hx)
theorem Lr {w:World} {a:Addr} {p q:Nat} {x:Value} (h:w.cell? ((a.add p).add q)=some x):w.cell? ⟨a.block,a.off+p+q,none⟩=some x:=by
 obtain⟨c,o,s⟩:=a
 have hs:∀(b:Addr) {y:Value},w.cell? b=some y→b.spot=none:=by
  intro b y hb
  unfold World.cell? at hb
  split at hb
  ·split at hb
   ·cases hb
   ·rename_i hn;simpa using hn
  ·cases hb
 unfold Addr.add at h
 by_cases hq:q=0
 ·subst hq
  rw[if_pos rfl] at h
  by_cases hp:p=0
  ·subst hp
   rw[if_pos rfl] at h
   have e:=hs _ h
   dsimp only at e
   subst e
   exact h
  ·rw[if_neg hp] at h;exact h
 ·rw[if_neg hq] at h
  by_cases hp:p=0
  ·subst hp;rw[if_pos rfl] at h;exact h
  ·rw[if_neg hp] at h;exact h
theorem JH {w:World} {base:Nat} {a:Addr} {p n:Nat} {xs:List Value} (h:w.cells? base (a.add p) n=some xs):xs.length=n∧∀(k:Nat) x,xs[k]? =some x→w.cell? ⟨a.block,a.off+p+k,none⟩=some x:=by
 unfold World.cells? at h
 split at h
 ·obtain⟨h1,h2⟩:=oK h
  rw[List.length_range] at h1
  refine⟨h1,fun k x hx=>?_⟩
  have hk:k<n:=by rw[←h1];exact(List.getElem?_eq_some_iff.1 hx).1
  obtain⟨y,hy,hc⟩:=h2 k k (by rw[List.getElem?_range hk])
  rw[hx] at hy;cases hy
  exact Lr hc
 ·cases h
theorem au.flatten [Env] {ρ:Ren}:∀ {us:List (List V)} {xs:List (List Value)},us.length=xs.length→(∀(i:Nat) u x,us[i]? =some u→xs[i]? =some x→au ρ u x)→au ρ us.flatten xs.flatten
 | [],[],_,_=>.nil
 | u::us,x::xs,hl,h=>(h 0 u x rfl rfl).append (au.flatten (by simpa using hl) fun i u x hu hx=>h (i+1) u x (by simpa using hu) (by simpa using hx))
section
variable {H:Type} {enc:TypeId×Value→H} {P:Program} {w:World} {base:Nat} {spare:Nat→Bool} {held:Bool} [Env]
theorem vR {d:Nat} (ih:∀ {fuel:Nat} {t:TypeId} {cs:List Value} {x:DataW H×List MemPlace},j8 P d t=true→DataW.trod enc P w base spare held fuel t cs=some x→∃us,au (gR w) us cs∧b9 P d t us)
  {cs:List Value}:∀ {fs:List Field} {acc:Nat},pz P fs acc cs.length=true→fs.all (fun f=>j8 P d f.type)=true→
  (∀f∈fs,∃fuel x,DataW.trod enc P w base spare held fuel f.type ((cs.drop f.offset).take (P.cellsOf f.type))=some x)→acc≤cs.length→∃ps:List (List V),au (gR w) ps.flatten (cs.drop acc)∧Hc (b9 P d) fs ps
 | [],acc,hl,_,_,_=>by
  have e:acc=cs.length:=by simpa [pz] using hl
  subst e
  exact⟨[],by rw[List.drop_length];exact .nil,trivial⟩
 | f::fs,acc,hl,hp,hx,hle=>by
  simp only[pz,Bool.and_eq_true,beq_iff_eq] at hl
  simp only[List.all_cons,Bool.and_eq_true] at hp
  obtain⟨fuel,x,hf⟩:=hx f List.mem_cons_self
  obtain⟨us,h1,h2⟩:=ih hp.1 hf
  have YW:acc+P.cellsOf f.type≤cs.length:=by
   have:∀(fs:List Field) (a n:Nat),pz P fs a n=true→a≤n:=by
    intro fs
    induction fs with
    | nil=>intro a n h;simp [pz] at h;omega
    | cons f fs ih=>intro a n h;simp only[pz,Bool.and_eq_true,beq_iff_eq] at h;have:=ih _ _ h.2;omega
   exact this _ _ _ hl.2
  obtain⟨ps,h3,h4⟩:=vR ih hl.2 hp.2 (fun g hg=>hx g (List.mem_cons_of_mem _ hg)) YW
  refine⟨us::ps,?_,h2,h4⟩
  rw[hl.1] at h1
  rw[List.flatten_cons]
  have e:cs.drop acc=(cs.drop acc).take (P.cellsOf f.type)++cs.drop (acc+P.cellsOf f.type):=by
   rw[←List.drop_drop,List.take_append_drop]
  rw[e]
  exact h1.append h3
theorem u6:∀(d:Nat) {fuel:Nat} {t:TypeId} {cs:List Value} {x:DataW H×List MemPlace},j8 P d t=true→DataW.trod enc P w base spare held fuel t cs=some x→∃us,au (gR w) us cs∧b9 P d t us
 | 0,_,_,_,_,hp,_=>by cases hp
 | d+1,0,_,_,_,_,h=>by cases h
 | d+1,fuel+1,t,cs,x,hp,h=>by
  rw[DataW.trod_step] at h
  unfold DataW.trodStep at h
  unfold j8 at hp
  unfold b9
  split at h
  case h_1 b hu=>exact⟨[.bool b],.cons (.bool b) .nil,by rw[hu];exact⟨b,rfl⟩⟩
  case h_2 k k' n hu=>
   split at h
   ·rename_i hc
    obtain⟨rfl,hw⟩:=hc
    exact⟨[.int k' n],.cons (.int k' n) .nil,by rw[hu];exact⟨n,rfl,hw⟩⟩
   ·cases h
  case h_3 hu=>rw[hu] at hp;cases hp
  case h_4 s hu=>
   split at h
   ·rename_i hs
    exact⟨[.str s.data.toList],.cons (.str s.data.toList) .nil,by rw[hu];exact⟨_,rfl,by rw[Array.length_toList];exact hs⟩⟩
   ·cases h
  case h_5 hu=>rw[hu] at hp;cases hp
  case h_6 hu=>rw[hu] at hp;cases hp
  case h_7 e hu=>exact⟨[.bj [] (P.cellsOf e) false],.cons .dM .nil,by rw[hu];exact⟨[],rfl,Nat.zero_le _,fun x hx=>by cases hx⟩⟩
  case h_8 e a len cap hu=>
   rw[hu] at hp
   dsimp only at hp
   rw[Bool.and_eq_true,Nat.blt_eq] at hp
   obtain⟨hn,hpe⟩:=hp
   simp only at h
   split at h
   ·rename_i hc
    simp only[Option.map_eq_some_iff,Option.bind_eq_some_iff] at h
    obtain⟨elems,he,rest,_,_⟩:=h
    obtain⟨h1,h2⟩:=oK he
    rw[List.length_range] at h1
    have each:∀i,i<len→∃xs us,au (gR w) us xs∧b9 P d e us∧xs.length=P.cellsOf e∧∀(k:Nat) x,xs[k]? =some x→w.cell? ⟨a.block,a.off+i*P.cellsOf e+k,none⟩=some x:=by
     intro i hi
     obtain⟨y,_,hy⟩:=h2 i i (by rw[List.getElem?_range hi])
     rw[Option.bind_eq_some_iff] at hy
     obtain⟨xs,ll,hy⟩:=hy
     obtain⟨g1,g2⟩:=JH ll
     obtain⟨us,g3,g4⟩:=u6 d hpe hy
     exact⟨xs,us,g3,g4,g1,g2⟩
    have row:∀m j,j+m≤len→∃(es:List (List V)) (xs:List Value),es.length=m∧au (gR w) es.flatten xs∧(∀u∈es,b9 P d e u∧u.length=P.cellsOf e)∧∀(k:Nat) x,xs[k]? =some x→w.cell? ⟨a.block,a.off+j*P.cellsOf e+k,none⟩=some x:=by
     intro m
     induction m with
     | zero=>exact fun j _=>⟨[],[],rfl,.nil,(fun u hu=>by cases hu),fun k x hx=>by simp at hx⟩
     | succ m ihm=>
      intro j hj
      obtain⟨xs,us,g1,g2,g3,g4⟩:=each j (by omega)
      obtain⟨es,ys,k1,k2,k3,k4⟩:=ihm (j+1) (by omega)
      have Bg:us.length=P.cellsOf e:=by rw[g1.length,g3]
      refine⟨us::es,xs++ys,by simp [k1],by rw[List.flatten_cons];exact g1.append k2,fun u hu=>?_,fun k x hx=>?_⟩
      ·rcases List.mem_cons.1 hu with rfl | hu
       ·exact⟨g2,Bg⟩
       ·exact k3 u hu
      ·by_cases hk:k<xs.length
       ·rw[List.getElem?_append_left hk] at hx;exact g4 k x hx
       ·rw[List.getElem?_append_right (by omega)] at hx
        have:=k4 _ x hx
        rw[Nat.add_mul,Nat.one_mul] at this
        rwa [show a.off+(j*P.cellsOf e+P.cellsOf e)+(k-xs.length)=a.off+j*P.cellsOf e+k by omega] at this
    obtain⟨es,xs,k1,k2,k3,k4⟩:=row len 0 (by omega)
    have VQ:ar (es.map (pZ P e))=es.flatten:=by
     have:∀(l:List (List V)),(∀u∈l,b9 P d e u)→ar (l.map (pZ P e))=l.flatten:=by
      intro l
      induction l with
      | nil=>intro _;rfl
      | cons u l ihl=>intro hl;rw[List.map_cons,bO,(hl u List.mem_cons_self).cells,ihl fun v hv=>hl v (List.mem_cons_of_mem _ hv),List.flatten_cons]
     exact this es fun u hu=>(k3 u hu).1
    have xd:∀v∈es.map (pZ P e),v.cells.length=P.cellsOf e:=by
     intro v hv
     obtain⟨u,hu,rfl⟩:=List.mem_map.1 hv
     rw[(k3 u hu).1.cells];exact(k3 u hu).2
    refine⟨[.bj (es.map (pZ P e)) (P.cellsOf e) false],.cons ?_ .nil,by rw[hu];exact⟨es,rfl,by rw[k1];omega,fun x hx=>(k3 x hx).1⟩⟩
    by_cases h0:len=0
    ·subst h0
     have:es=[]:=List.eq_nil_of_length_eq_zero k1
     subst this
     exact .dc fun h=>by cases h
    ·have Ob:a.spot=none:=by
      obtain⟨y,_,hy⟩:=h2 0 0 (by rw[List.getElem?_range (by omega)])
      rw[Option.bind_eq_some_iff] at hy
      obtain⟨zs,ny,_⟩:=hy
      unfold World.cells? at ny
      split at ny
      ·obtain⟨z1,z2⟩:=oK ny
       obtain⟨y,_,hy⟩:=z2 0 0 (by rw[List.getElem?_range hn])
       rw[Nat.zero_mul] at hy
       have ha:(a.add 0).add 0=a:=by simp [Addr.add]
       rw[ha] at hy
       unfold World.cell? at hy
       split at hy
       ·split at hy
        ·cases hy
        ·rename_i hs;simpa using hs
       ·cases hy
      ·cases ny
     have key:=aq.bj (ρ:=gR w) (es:=es.map (pZ P e)) (c:=a.block) (off:=a.off) (cap:=cap) (ex:=false) (xs:=xs) xd (by rw[VQ];exact k2) (fun k x hx=>by have:=k4 k x hx;rwa [Nat.zero_mul,Nat.add_zero] at this) (by rw[List.length_map,k1];exact hc.2.1) (fun h=>by cases h)
     rw[List.length_map,k1] at key
     obtain⟨c,o,s⟩:=a
     dsimp only at Ob
     subst Ob
     exact key
   ·cases h
  case h_9 _ fs hu=>
   rename_i cs _ _
   rw[hu] at hp
   dsimp only at hp
   rw[Bool.and_eq_true] at hp
   split at h
   ·rename_i hl
    rw[Option.map_eq_some_iff] at h
    obtain⟨xs,ll,_⟩:=h
    obtain⟨h1,h2⟩:=oK ll
    obtain⟨ps,g1,g2⟩:=vR (d:=d) (fun {fuel t cs x} hp h=>u6 d hp h) (cs:=cs) (fs:=fs.toList) (acc:=0) (by rw[hl];exact hp.1) hp.2 (fun f hf=>by
     obtain⟨i,hi,rfl⟩:=List.getElem_of_mem hf
     obtain⟨y,_,hy⟩:=h2 i _ (List.getElem?_eq_getElem hi)
     exact⟨fuel,y,hy⟩) (Nat.zero_le _)
    rw[List.drop_zero] at g1
    exact⟨ps.flatten,g1,by rw[hu];exact⟨ps,rfl,g2⟩⟩
   ·cases h
  all_goals first
   | (rename_i hu;rw[hu] at hp;cases hp;done)
   | (rename_i hu _;rw[hu] at hp;cases hp;done)
   | cases h
end
end Go.Ev
end
section
namespace Go.Ev
open Go
def af {α:Type} [Inhabited α] (enc:α→V) (esz:Nat) (l:List α):V:=.arr l.length (fun i=>enc (l.getD i default)) esz false false
def Hd {α:Type} [Inhabited α] (enc:α→V) (esz:Nat) (l:List α):V:=.arr l.length (fun i=>enc (l.getD i default)) esz false true
def lp (c:Code) (k:Nat):Code:=((aO c)[k]?).getD .skip
section
variable [Env] {P:Program} {σ:St}
theorem dh {α:Type} [Inhabited α] {enc:α→V} {esz:Nat} {l:List α} (h:∀x∈l,∀u∈(enc x).cells,Clean u):Clean (af enc esz l):=
 Clean.arr fun i hi=>by
  have:l.getD i default=l[i]:=by rw[List.getD_eq_getElem?_getD,List.getElem?_eq_getElem hi];rfl
  rw[this];exact h _ (List.getElem_mem hi)
theorem ag.Oc {f:FuncId} {vs us:List V} {Q:V→Prop} (hf:bn σ vs us) (hq:∀v,Q v→∀(ρ ρ':Ren) x,aq ρ v x→aq ρ' v x) (h:ag P f us (fun v _=>Q v) start):ag P f vs (fun v σ'=>Q v∧σ'=σ) σ:=by
 have h:=h.h
 refine⟨⟨?_,?_⟩⟩
 ·obtain⟨⟨o,τ⟩,hx⟩:=h.1
  cases o with
  | val v=>exact⟨(.val v,σ),hx,rfl⟩
  | exit e a=>exact hx.elim
 ·intro ρ w vs' hr hv
  have xO:au (gR w) us vs':=eY hr (fun c o x hx=>(hr.aL c o x hx).1) (fun b k l _ _ o x hx=>hx) hf hv
  obtain⟨g1,g2⟩:=cj.at h (gR w) w vs' (xN w fun q hq=>(hr.aL _ _ _ (hr.laid q hq)).1) xO
  refine⟨g1,g2.mono fun e w' hx=>?_⟩
  obtain⟨v,hZ,bI,v',jv,rfl,lE,az⟩:=hx
  have yQ:∀ {c},¬Wr (gR w) start c:=by rintro c ⟨b,k,l,hb,_⟩;rw[et] at hb;cases hb
  have hold:∀c,c<w.heap.size→w'.heap[c]? =w.heap[c]? :=fun c hc=>az.aJ c hc yQ
  refine⟨v,σ,ρ,v',⟨jv,rfl⟩,rfl,hq v jv bI ρ v' lE,⟨⟨fun b k hb=>?_,hr.inj,hr.fresh,fun b l hb=>Nat.lt_of_lt_of_le (hr.valid b l hb) az.size,fun c o x hx=>?_,hr.laid⟩,Ren.le.refl ρ,Nat.le_refl _,fun b l hb=>.inl hb,az.size,az.os,az.tape,az.output,
   fun c hc _=>hold c hc,fun c _ h=>h,fun b k hb=>.inl ⟨k,hb⟩,fun c o x hx=>.inl hx⟩⟩
  ·obtain⟨l,hl,hk⟩:=hr.cS b k hb
   exact⟨l,hl,hk.same (Ren.le.refl ρ) (hold l.c (hr.valid b l hl))⟩
  ·obtain⟨a1,a2⟩:=hr.aL c o x hx
   exact⟨by rw[cell?_of_block (hold c (fB a1))];exact a1,a2⟩
theorem ag.AO {f:FuncId} {vs:List V} {Q:V→Prop} (hc:∀v∈vs,Clean v) (h:ag P f vs (fun v τ=>∃u,dQ τ v u∧Q u) start):ag P f vs (fun v σ'=>Q v∧σ'=σ) σ:=by
 have h:=h.h
 refine⟨⟨?_,?_⟩⟩
 ·obtain⟨⟨o,τ⟩,hx⟩:=h.1
  cases o with
  | val v=>obtain⟨u,_,hu⟩:=hx;exact⟨(.val u,σ),hu,rfl⟩
  | exit e a=>exact hx.elim
 ·intro ρ w vs' hr hv
  let bF:Ren:=⟨fun _=>none,ρ.aL⟩
  have yQ:∀ {c},¬Wr bF start c:=by rintro c ⟨b,k,l,hb,_⟩;rw[et] at hb;cases hb
  have xP:R bF start w:=⟨fun b k h=>(by rw[et] at h;cases h),fun b b' k k' l l' h=>(by rw[et] at h;cases h),fun _ _=>rfl,fun b l h=>(by cases h),fun c o x h=>⟨(hr.aL c o x h).1,yQ⟩,hr.laid⟩
  have xO:au bF vs vs':=au.clean (ρ:=ρ) (ρ':=bF) (fun _ _ _ h=>h) hc hv
  obtain⟨g1,g2⟩:=cj.at h bF w vs' xP xO
  refine⟨g1,g2.mono fun e w' hx=>?_⟩
  obtain⟨v,hZ,bI,v',⟨u,hf,hq⟩,rfl,lE,az⟩:=hx
  let bg:Ren:=⟨ρ.at',fun c o=>if c<w.heap.size then ρ.aL c o else w'.cell? ⟨c,o,none⟩⟩
  have hold:∀c,c<w.heap.size→w'.heap[c]? =w.heap[c]? :=fun c hc=>az.aJ c hc yQ
  have hle:ρ.le bg:=⟨fun b l hb=>hb,fun c o x hx=>by
   show(if c<w.heap.size then ρ.aL c o else _)=some x
   rw[if_pos (fB (hr.aL c o x hx).1)];exact hx⟩
  have wE:∀c o x,bI.aL c o=some x→bg.aL c o=some x:=by
   intro c o x hx
   show(if c<w.heap.size then ρ.aL c o else _)=some x
   by_cases hc:c<w.heap.size
   ·rw[if_pos hc]
    rcases az.gq c o x hx with h1 | h1 | h1
    ·exact h1
    ·omega
    ·exact absurd h1 yQ
   ·rw[if_neg hc];exact(az.r.aL c o x hx).1
  have ft:∀b k l,hZ.heap.get b=some k→bI b=some l→∀o x,w'.cell? ⟨l.c,o,none⟩=some x→bg.aL l.c o=some x:=by
   intro b k l hb hl o x hx
   show(if l.c<w.heap.size then ρ.aL l.c o else _)=some x
   rw[if_neg fun hc=>yQ (az.wr l.c hc ⟨b,k,l,hb,rfl,hl,rfl⟩)]
   exact hx
  refine⟨u,σ,bg,v',⟨hq,rfl⟩,rfl,mc az.r wE ft hf lE,⟨⟨fun b k hb=>?_,hr.inj,hr.fresh,fun b l hb=>Nat.lt_of_lt_of_le (hr.valid b l hb) az.size,fun c o x hx=>?_,hr.qv hle⟩,hle,Nat.le_refl _,fun b l hb=>.inl hb,az.size,az.os,az.tape,az.output,
   fun c hc _=>hold c hc,fun c _ h=>h,fun b k hb=>.inl ⟨k,hb⟩,fun c o x hx=>?_⟩⟩
  ·obtain⟨l,hl,hk⟩:=hr.cS b k hb
   exact⟨l,hl,hk.same hle (hold l.c (hr.valid b l hl))⟩
  ·replace hx:(if c<w.heap.size then ρ.aL c o else w'.cell? ⟨c,o,none⟩)=some x:=hx
   by_cases hc:c<w.heap.size
   ·rw[if_pos hc] at hx
    obtain⟨a1,a2⟩:=hr.aL c o x hx
    exact⟨by rw[cell?_of_block (hold c hc)];exact a1,a2⟩
   ·rw[if_neg hc] at hx
    refine⟨hx,?_⟩
    rintro⟨b,k,l,_,_,h3,h4⟩
    exact hc (by rw[←h4];exact hr.valid b l h3)
  ·replace hx:(if c<w.heap.size then ρ.aL c o else w'.cell? ⟨c,o,none⟩)=some x:=hx
   by_cases hc:c<w.heap.size
   ·rw[if_pos hc] at hx;exact .inl hx
   ·exact .inr (.inl (Nat.le_of_not_lt hc))
def Ec:Code→Bool
 | .loop _=>false
 | _=>true
structure bS (P:Program) (f:FuncId) (g:Func):Prop where
 hf:P.funcs[f]? =some g
 hb:g.body=some (g.body.getD .skip)
 hn:(g.name== "runtime.NumGoroutine")=false
 hp:gY (g.body.getD .skip)=true
 hl:Ec (g.body.getD .skip)=true
def kS (F:FuncId) (W:List V→St→ah→Prop) (K:FuncId→List V→St→ah→Prop) (g:FuncId) (vs:List V) (σ:St) (k:ah):Prop:=
 match Nat.beq g F with
 | true=>W vs σ k
 | false=>K g vs σ k
omit [Env] in
theorem O8 {F:FuncId} {W:List V→St→ah→Prop} {K:FuncId→List V→St→ah→Prop} {R:FuncId→List V→St→ah→Prop} (h1:∀ {vs σ k},W vs σ k→R F vs σ k) (h2:∀ {g vs σ k},K g vs σ k→R g vs σ k) {g:FuncId} {vs:List V} {σ:St} {k:ah} (h:kS F W K g vs σ k):R g vs σ k:=by
 unfold kS at h
 split at h
 ·rename_i hb;obtain rfl:=Nat.eq_of_beq_eq_true hb;exact h1 h
 ·exact h2 h
theorem aR {F:FuncId} {W:List V→St→ah→Prop} {K:FuncId→List V→St→ah→Prop} (h1:∀ {vs σ k},W vs σ k→ag P F vs k σ) (h2:∀ {g vs σ k},K g vs σ k→ag P g vs k σ) {g:FuncId} {vs:List V} {σ:St} {k:ah} (h:kS F W K g vs σ k):ag P g vs k σ:=
 O8 (R:=fun g vs σ k=>ag P g vs k σ) h1 h2 h
def WE (P:Program) (f:FuncId) (g:Func) (call:FuncId→List V→St→ah→Prop) (n₀:Nat) (live:Nat→List Nat) (I:Nat→List SV→Prop) (Q:ah) (vs:List V) (σ:St):Prop:=
 ws P (KF P call n₀ g.ntmps live I) f none 0 (g.body.getD .skip) (oI P g Q) (lb g.ntmps vs) σ
def WL (P:Program) (f:FuncId) (g:Func) (call:FuncId→List V→St→ah→Prop) (n₀:Nat) (live:Nat→List Nat) (I:Nat→List SV→Prop) (Q:ah) (k:Nat) (ss:List SV):Prop:=
 ws P (KF P call n₀ g.ntmps live I) f none (Nat.add k 1) (lp (g.body.getD .skip) k) (ib (fun a σ=>lG n₀ g.ntmps (live k) a σ (I k)) (behind P (KF P call n₀ g.ntmps live I) f (g.body.getD .skip) 0 k (oI P g Q))) (D8 g.ntmps (live k) ss) (D9 ss)
def RO (g:Func):Bool:=(match g.body with | some _=>true | none=>false)&& !(g.name== "runtime.NumGoroutine")&&gY (g.body.getD .skip)&&Ec (g.body.getD .skip)
omit [Env] in
theorem bS.of {f:FuncId} {g:Func} (hf:P.funcs[f]? =some g) (h:RO g=true):bS P f g:=by
 unfold RO at h
 simp only[Bool.and_eq_true] at h
 obtain⟨⟨⟨h1,h2⟩,h3⟩,h4⟩:=h
 refine⟨hf,?_,?_,h3,h4⟩
 ·split at h1
  ·rename_i c hc;rw[hc];rfl
  ·cases h1
 ·cases hx:(g.name== "runtime.NumGoroutine") with
  | false=>rfl
  | true=>rw[hx] at h2;cases h2
variable [eF P] {f:FuncId} {g:Func} {call:FuncId→List V→St→ah→Prop} {vs:List V} {Q:ah} {n₀:Nat} {live:Nat→List Nat}
theorem bS.cG (F:bS P f g) (eV:∀ {f vs σ k},call f vs σ k→ag P f vs k σ) (xM:σ.next=n₀) (N:Nat) (hN:aD (g.body.getD .skip)=N)
  {α:Type} {r:α→α→Prop} (wf:WellFounded r) (μ:Nat→List SV→α) (I:Nat→List SV→Prop) (hc:∀k ss,I k ss→∀s∈ss,s.clean)
  (tX:WE P f g call n₀ live I Q vs σ)
  (lA:∀k,k<N→∀ss,I k ss→WL P f g call n₀ live (fun k' ed=>I k' ed∧r (μ k' ed) (μ k ss)) Q k ss):
  ag P f vs Q σ:=by
 refine ag.cG (fun h=>eV h) F.hf F.hb F.hn F.hp xM wf μ I hc tX (fun k x hx ss hI=>?_) fun x e=>?_
 ·have hk:k<N:=by
   rw[←hN,←dK]
   exact(List.getElem?_eq_some_iff.1 hx).1
  have e:x=lp (g.body.getD .skip) k:=by unfold lp;rw[hx];rfl
  subst e
  exact lA k hk ss hI
 ·have:=F.hl
  rw[e] at this;cases this
theorem bS.flat (F:bS P f g) (eV:∀ {f vs σ k},call f vs σ k→ag P f vs k σ) (xM:σ.next=n₀) (hN:aD (g.body.getD .skip)=0)
  (h:WE P f g call n₀ live (fun _ _=>False) Q vs σ):ag P f vs Q σ:=
 F.cG (fun h=>eV h) xM 0 hN Nat.lt_wfRel.wf (fun _ _=>0) (fun _ _=>False) (fun _ _ h=>h.elim) h fun k hk=>absurd hk (Nat.not_lt_zero k)
def V.fY:V→Bool
 | .int _ _ | .bool _ | .str _=>true
 | .tuple []=>true
 | _=>false
omit [eF P] in
theorem V.Ls {v:V} (h:V.fY v=true) (ρ ρ':Ren) (x:Value) (hx:aq ρ v x):aq ρ' v x:=by
 unfold V.fY at h
 split at h
 ·cases hx;exact .int _ _
 ·cases hx;exact .bool _
 ·cases hx;exact .str _
 ·cases hx with | tuple h=>cases h;exact .tuple .nil
 ·cases h
omit [eF P] in
theorem ag.JI {us:List V} {k:ah} {A:V→Prop} (hf:bn σ vs us) (hA:∀v,A v→V.fY v=true) (h:ag P f us (fun v _=>A v) start) (hk:∀v,A v→k v σ):ag P f vs k σ:=
 (ag.Oc (Q:=A) hf (fun v hv ρ ρ' x hx=>V.Ls (hA v hv) ρ ρ' x hx) h).mono fun v τ ⟨h1,h2⟩=>by subst h2;exact hk v h1
omit [eF P] in
theorem ag.one {us:List V} {k:ah} {v:V} (hf:bn σ vs us) (hv:V.fY v=true) (h:ag P f us (fun u _=>u=v) start) (hk:k v σ):ag P f vs k σ:=
 ag.JI hf (fun u e=>by rw[e];exact hv) h fun u e=>by rw[e];exact hk
theorem cw:∀v∈([]:List V),Clean v:=fun _ h=>by cases h
theorem aw {v:V} {l:List V} (h:Clean v) (hl:∀u∈l,Clean u):∀u∈v::l,Clean u:=fun u hu=>by
 rcases List.mem_cons.1 hu with rfl | hu
 ·exact h
 ·exact hl u hu
omit [eF P] in
theorem ag.told {Q':ah} (h:ag P f vs Q' start) (hq:∀v τ,Q' v τ→∃m v' σ',eB m v' v∧qL 0 m ⟨[],0,[]⟩ σ' ⟨[],0,[]⟩ τ∧Q v' σ'):ag P f vs Q start:=by
 have h:=h.h
 refine⟨⟨?_,?_⟩⟩
 ·obtain⟨⟨o,τ⟩,hx⟩:=h.1
  cases o with
  | val v=>obtain⟨_,v',σ',_,_,h3⟩:=hq v τ hx;exact⟨(.val v',σ'),h3⟩
  | exit e a=>exact hx.elim
 ·intro ρ w vs' hr hv
  obtain⟨g1,g2⟩:=cj.at h ρ w vs' hr hv
  refine⟨g1,g2.mono fun e w' hx=>?_⟩
  obtain⟨v,τ,bI,x,hx,rfl,lE,az⟩:=hx
  obtain⟨m,v',σ',lV,hf,h3⟩:=hq v τ hx
  exact⟨v',σ',bI.pull m,x,h3,rfl,lV.rel lE,((gC.of (n₀:=0) (Nat.zero_le _) az).D7 hf).to hr⟩
end
end Go.Ev
end
section
namespace Go.Proofs.YtbajncpfmemdgaaGreatDoor
open Go.RowKit Go.Extern.Stop Go.Stop Go.Extern
theorem RP (t:Value) (w:World):
  Calls Tryz.prog 175 #[.nilIface,t] w fun e w'=>e=.returned (.bool false)∧w'=w:=by
 go_enter Tryz.func175,Tryz.ntmps175
 go_wp2
 go_ret
 exact⟨rfl,rfl⟩
theorem Tryz.asvalueOf27 (t:Addr) (w:World):(ReflectliteValue.unpack (.iface 218 (.pointer (some t)))).run Tryz.prog w
  =.ok (.agg #[.pointer (some ⟨3,218,none⟩),.pointer (some ⟨w.heap.size,0,none⟩),.int .u64 150]) (w.alloc (.cells #[.pointer (some t)] 218)):=by kernel_rfl
theorem Tryz.astype27 (a:Addr) (w:World):(ReflectliteValue.methodAny (ReflectliteValue.valueError "reflectlite.Value.Type" 0) (fun t _ _ _=>ReflectliteType.toType t) #[.agg #[.pointer (some ⟨3,218,none⟩),.pointer (some a),.int .u64 150]]).run Tryz.prog w
  =.ok (.iface 292 (.agg #[.pointer (some ⟨3,218,none⟩)])) w:=by kernel_rfl
theorem Tryz.asmethodKind (h:Value) (w:World):(Go.method 463 292 (.agg #[h]) "Kind").run Tryz.prog w=.ok (296,h) w:=by kernel_rfl
theorem Tryz.askind27 (w:World):((ReflectliteType.abiMethod fun t=>(fun a:Nat=>Value.int IntKind.u8 (a:Int)) <$> Rtype.kind t) #[.pointer (some ⟨3,218,none⟩)]).run Tryz.prog w=.ok (.int .u8 22) w:=by kernel_rfl
theorem Tryz.askind25 (w:World):((ReflectliteType.abiMethod fun t=>(fun a:Nat=>Value.int IntKind.u8 (a:Int)) <$> Rtype.kind t) #[.pointer (some ⟨3,216,none⟩)]).run Tryz.prog w=.ok (.int .u8 25) w:=by kernel_rfl
theorem Xk (z:Sem Value) (f:TypeId→Addr→Nat→Nat→Sem Value) (v:Value):
  ReflectliteValue.method z f #[v]=(do match←ReflectliteValue.parts v with | none=>z | some (t,a,fl)=>f t a fl (fl%32)):=rfl
theorem Tryz.Ab (a:Addr) (w:World):(ReflectliteValue.parts (.agg #[.pointer (some ⟨3,218,none⟩),.pointer (some a),.int .u64 150])).run Tryz.prog w=.ok (some (218,a,150)) w:=by kernel_rfl
theorem Tryz.asisNil27 (a p:Addr) (W:World) (ha:W.cell? a=some (.pointer (some p))):
  (ReflectliteValue.method (ReflectliteValue.valueError "reflectlite.Value.IsNil" 0) ReflectliteValue.isNil #[.agg #[.pointer (some ⟨3,218,none⟩),.pointer (some a),.int .u64 150]]).run Tryz.prog W=.ok (.bool false) W:=by
 rw[Xk]
 simp only[Sem.run_bind,Tryz.Ab,Result.andThen]
 simp [ReflectliteValue.isNil,loadVar,isAgg,underlying,Tryz.underlying218,ha,Result.andThen]
theorem Tryz.asmethodElem (h:Value) (w:World):(Go.method 463 292 (.agg #[h]) "Elem").run Tryz.prog w=.ok (322,.agg #[h]) w:=by kernel_rfl
theorem Tryz.asmethodImplements (h:Value) (w:World):(Go.method 463 292 (.agg #[h]) "Implements").run Tryz.prog w=.ok (323,.agg #[h]) w:=by kernel_rfl
theorem Tryz.asmethodAssignableTo (h:Value) (w:World):(Go.method 463 292 (.agg #[h]) "AssignableTo").run Tryz.prog w=.ok (320,.agg #[h]) w:=by kernel_rfl
theorem Tryz.aselem27 (w:World):(ReflectliteType.method ReflectliteType.elem #[.agg #[.pointer (some ⟨3,218,none⟩)]]).run Tryz.prog w=.ok (.iface 292 (.agg #[.pointer (some ⟨3,216,none⟩)])) w:=by kernel_rfl
theorem Tryz.asimplements25 (w:World):(ReflectliteType.relation "Implements" ReflectliteType.implements_ #[.agg #[.pointer (some ⟨3,216,none⟩)],.iface 292 (.agg #[.pointer (some ⟨3,179,none⟩)])]).run Tryz.prog w=.ok (.bool true) w:=by kernel_rfl
theorem Tryz.astypeOf25 (v:Value) (w:World):(ReflectliteType.typeOf #[.iface 216 v]).run Tryz.prog w=.ok (.iface 292 (.agg #[.pointer (some ⟨3,216,none⟩)])) w:=by kernel_rfl
theorem Tryz.asassignable25 (w:World):(ReflectliteType.relation "AssignableTo" ReflectliteType.assignableTo #[.agg #[.pointer (some ⟨3,216,none⟩)],.iface 292 (.agg #[.pointer (some ⟨3,216,none⟩)])]).run Tryz.prog w=.ok (.bool true) w:=by kernel_rfl
theorem Tryz.asvalueOf25 (n:Int) (w:World):(ReflectliteValue.unpack (.iface 216 (.agg #[.int .i64 n]))).run Tryz.prog w
  =.ok (.agg #[.pointer (some ⟨3,216,none⟩),.pointer (some ⟨w.heap.size,0,none⟩),.int .u64 153]) (w.alloc (.cells #[.int .i64 n] 216)):=by kernel_rfl
theorem Tryz.He (w:World):(Rtype.elem? 218).run Tryz.prog w=.ok (some 216) w:=by kernel_rfl
theorem Tryz.RQ (p:Addr) (w:World):(ReflectliteValue.mk 216 p ReflectliteValue.flagAddr).run Tryz.prog w=.ok (.agg #[.pointer (some ⟨3,216,none⟩),.pointer (some p),.int .u64 409]) w:=by kernel_rfl
theorem Tryz.aselemV27 (a p:Addr) (W:World) (ha:W.cell? a=some (.pointer (some p))):
  (ReflectliteValue.method (ReflectliteValue.valueError "reflectlite.Value.Elem" 0) ReflectliteValue.elem #[.agg #[.pointer (some ⟨3,218,none⟩),.pointer (some a),.int .u64 150]]).run Tryz.prog W
   =.ok (.agg #[.pointer (some ⟨3,216,none⟩),.pointer (some p),.int .u64 409]) W:=by
 rw[Xk]
 simp only[Sem.run_bind,Tryz.Ab,Result.andThen]
 simp [ReflectliteValue.elem,loadVar,isAgg,underlying,Tryz.underlying218,ha,Result.andThen,Tryz.He,Tryz.RQ]
theorem rls (v x:Value):ReflectliteValue.set #[v,x]=(do
  let (some (dst,a,fl),some (src,b,_)):=(←ReflectliteValue.parts v,←ReflectliteValue.parts x)
   | unsupported (.noEntry "extern/(internal/reflectlite.Value).Set.zeroValue")
  if fl/ReflectliteValue.flagAddr%2==0 then unsupported (.noEntry "extern/(internal/reflectlite.Value).Set.unaddressable")
  let val←loadVar src b
  if←Rtype.directlyAssignable dst src then storeVar dst a val
  else if←Rtype.implements dst src then
   if (←Rtype.kind src)==20 then
    match val with
    | .nilIface=>unsupported (.noEntry "extern/reflectlite: a nil value of one interface type handed on as a value of another")
    | _=>storeVar dst a val
   else storeVar dst a (.iface src val)
  else panicString ("reflectlite.Set: value of type "++(←Rtype.spelt src)++ " is not assignable to type "++(←Rtype.spelt dst))
  pure (.tuple #[])):=rfl
theorem Tryz.Hf (a:Addr) (w:World):(ReflectliteValue.parts (.agg #[.pointer (some ⟨3,216,none⟩),.pointer (some a),.int .u64 409])).run Tryz.prog w=.ok (some (216,a,409)) w:=by kernel_rfl
theorem Tryz.JJ (a:Addr) (w:World):(ReflectliteValue.parts (.agg #[.pointer (some ⟨3,216,none⟩),.pointer (some a),.int .u64 153])).run Tryz.prog w=.ok (some (216,a,153)) w:=by kernel_rfl
theorem Tryz.Hg (w:World):(Rtype.directlyAssignable 216 216).run Tryz.prog w=.ok true w:=by kernel_rfl
theorem Tryz.asset25 (ta b:Addr) (n:Int) (old:Value) (W:World) (hb:W.cell? b=some (.int .i64 n)) (ht:W.cell? ta=some old) (hf:W.frozen? ta=false):
  (ReflectliteValue.set #[.agg #[.pointer (some ⟨3,216,none⟩),.pointer (some ta),.int .u64 409],.agg #[.pointer (some ⟨3,216,none⟩),.pointer (some b),.int .u64 153]]).run Tryz.prog W
   =.ok (.tuple #[]) (W.setCell ta (.int .i64 n)):=by
 have hl:(loadCells b 1).run Tryz.prog W=.ok #[.int .i64 n] W:=run_loadCells_list W b [Value.int .i64 n] (fun j v hj=>by
  cases j with
  | zero=>simp at hj;subst hj;simpa [Addr.add] using hb
  | succ j=>simp at hj)
 have hs:(storeVar 216 ta (.agg #[.int .i64 n])).run Tryz.prog W=.ok () (W.setCell ta (.int .i64 n)):=by
  simp [storeVar,Value.cells,storeCells,Addr.add,Result.andThen]
  rw[run_store Tryz.prog W ta _ _ (by rfl)]
  simp [ht,hf]
 rw[rls]
 simp only[Sem.run_bind,Tryz.Hf,Tryz.JJ,Result.andThen]
 simp [ReflectliteValue.flagAddr,loadVar,isAgg,underlying,Tryz.underlying216,hl,Result.andThen,Tryz.Hg,hs]
set_option maxRecDepth 100000 in
set_option maxHeartbeats 4000000 in
theorem RR (t:Addr) (n:Int) (old:Value) (w:World) (hg:w.cell? ⟨0,0,none⟩=some (.iface 292 (.agg #[.pointer (some ⟨3,179,none⟩)]))) (Xl:w.cell? t=some old) (hf0:w.frozen? t=false):
  Calls Tryz.prog 175 #[.iface 216 (.agg #[.int .i64 n]),.iface 218 (.pointer (some t))] w fun ev w'=>ev=.returned (.bool true)∧w'=((((w.alloc (.cells #[.pointer (some t)] 218)).alloc (.cells #[.pointer (some ⟨3,218,none⟩),.pointer (some ⟨w.heap.size,0,none⟩),.int .u64 150] 261)).alloc (.cells #[.pointer (some ⟨3,218,none⟩),.pointer (some ⟨w.heap.size,0,none⟩),.int .u64 150] 261)).alloc (.cells #[.int .i64 n] 216)).setCell t (.int .i64 n):=by
 have h6:=@run_callFunc_extern Tryz.prog 218 _ (fun args=>ReflectliteValue.unpack (args.getD 0 (.tuple #[]))) Tryz.func218 (by kernel_rfl) (by kernel_rfl) (by kernel_rfl) (by kernel_rfl)
 have h7:=@run_callFunc_extern Tryz.prog 219 _ (ReflectliteValue.methodAny (ReflectliteValue.valueError "reflectlite.Value.Type" 0) (fun t _ _ _=>ReflectliteType.toType t)) Tryz.func219 (by kernel_rfl) (by kernel_rfl) (by kernel_rfl) (by kernel_rfl)
 have h8:=@run_callFunc_extern Tryz.prog 220 _ (ReflectliteValue.method (ReflectliteValue.valueError "reflectlite.Value.IsNil" 0) ReflectliteValue.isNil) Tryz.func220 (by kernel_rfl) (by kernel_rfl) (by kernel_rfl) (by kernel_rfl)
 have h27:=@run_callFunc_extern Tryz.prog 296 _ (ReflectliteType.abiMethod fun t=>do pure (.int .u8 (←Rtype.kind t))) Tryz.func296 (by kernel_rfl) (by kernel_rfl) (by kernel_rfl) (by kernel_rfl)
 have h37:=@run_callFunc_extern Tryz.prog 322 _ (ReflectliteType.method ReflectliteType.elem) Tryz.func322 (by kernel_rfl) (by kernel_rfl) (by kernel_rfl) (by kernel_rfl)
 have h38:=@run_callFunc_extern Tryz.prog 323 _ (ReflectliteType.relation "Implements" ReflectliteType.implements_) Tryz.func323 (by kernel_rfl) (by kernel_rfl) (by kernel_rfl) (by kernel_rfl)
 have pe:=@run_callFunc_extern Tryz.prog 247 _ ReflectliteType.typeOf Tryz.func247 (by kernel_rfl) (by kernel_rfl) (by kernel_rfl) (by kernel_rfl)
 have h35:=@run_callFunc_extern Tryz.prog 320 _ (ReflectliteType.relation "AssignableTo" ReflectliteType.assignableTo) Tryz.func320 (by kernel_rfl) (by kernel_rfl) (by kernel_rfl) (by kernel_rfl)
 have h11:=@run_callFunc_extern Tryz.prog 248 _ (ReflectliteValue.method (ReflectliteValue.valueError "reflectlite.Value.Elem" 0) ReflectliteValue.elem) Tryz.func248 (by kernel_rfl) (by kernel_rfl) (by kernel_rfl) (by kernel_rfl)
 have h12:=@run_callFunc_extern Tryz.prog 249 _ ReflectliteValue.set Tryz.func249 (by kernel_rfl) (by kernel_rfl) (by kernel_rfl) (by kernel_rfl)
 have tO:=Tryz.astypeOf25
 have mA:=Tryz.asmethodAssignableTo
 have a25:=Tryz.asassignable25
 have v25:=Tryz.asvalueOf25
 have f6:=Tryz.asvalueOf27
 have f7:=Tryz.astype27
 have mK:=Tryz.asmethodKind
 have mE:=Tryz.asmethodElem
 have mI:=Tryz.asmethodImplements
 have k27:=Tryz.askind27
 have k25:=Tryz.askind25
 have JK:=Tryz.aselem27
 have i25:=Tryz.asimplements25
 have n8:=Tryz.asisNil27 ⟨w.heap.size,0,none⟩ t ((w.alloc (.cells #[.pointer (some t)] 218)).alloc (.cells #[.pointer (some ⟨3,218,none⟩),.pointer (some ⟨w.heap.size,0,none⟩),.int .u64 150] 261)) (by simp)
 have bz:0<w.heap.size:=by
  rcases Nat.eq_zero_or_pos w.heap.size with h0 | h
  ·simp [World.cell?,h0] at hg
  ·exact h
 have W7:((w.alloc (.cells #[.pointer (some t)] 218)).alloc (.cells #[.pointer (some ⟨3,218,none⟩),.pointer (some ⟨w.heap.size,0,none⟩),.int .u64 150] 261)).cell? ⟨0,0,none⟩=some (.iface 292 (.agg #[.pointer (some ⟨3,179,none⟩)])):=by
  rw[World.cell?_alloc_lt _ _ ⟨0,0,none⟩ (by simp),World.cell?_alloc_lt _ _ ⟨0,0,none⟩ bz];exact hg
 have Xm:t.block<w.heap.size:=by
  rcases Nat.lt_or_ge t.block w.heap.size with h | h
  ·exact h
  ·simp [World.cell?,Array.getElem?_eq_none h] at Xl
 have el:=Tryz.aselemV27 ⟨w.heap.size,0,none⟩ t (((w.alloc (.cells #[.pointer (some t)] 218)).alloc (.cells #[.pointer (some ⟨3,218,none⟩),.pointer (some ⟨w.heap.size,0,none⟩),.int .u64 150] 261)).alloc (.cells #[.pointer (some ⟨3,218,none⟩),.pointer (some ⟨w.heap.size,0,none⟩),.int .u64 150] 261)) (by rw[World.cell?_alloc_lt _ _ ⟨w.heap.size,0,none⟩ (by simp;omega)];simp)
 have st:=Tryz.asset25 t ⟨w.heap.size+1+1+1,0,none⟩ n old ((((w.alloc (.cells #[.pointer (some t)] 218)).alloc (.cells #[.pointer (some ⟨3,218,none⟩),.pointer (some ⟨w.heap.size,0,none⟩),.int .u64 150] 261)).alloc (.cells #[.pointer (some ⟨3,218,none⟩),.pointer (some ⟨w.heap.size,0,none⟩),.int .u64 150] 261)).alloc (.cells #[.int .i64 n] 216))
  (by rw[World.cell?_alloc_at _ _ _ _ (by simp)];rfl)
  (by rw[World.cell?_alloc_lt _ _ t (by simp;omega),World.cell?_alloc_lt _ _ t (by simp;omega),World.cell?_alloc_lt _ _ t (by simp;omega),World.cell?_alloc_lt _ _ t Xm];exact Xl)
  (by rw[World.frozen?_alloc_old _ _ t (by simp;omega),World.frozen?_alloc_old _ _ t (by simp;omega),World.frozen?_alloc_old _ _ t (by simp;omega),World.frozen?_alloc_old _ _ t (Nat.ne_of_lt Xm)];exact hf0)
 go_enter Tryz.func175,Tryz.ntmps175
 go_wp2
 refine wp_loop_rounds 1 ?_
 rw[rounds_succ]
 go_wp2
 go_ret
 exact⟨rfl,rfl⟩
end Go.Proofs.YtbajncpfmemdgaaGreatDoor
end
section
namespace Go.Proofs.YtbajncpfmemdgaaGreatDoor
open Go.RowKit Go.Extern.Stop Go.Stop Go.Extern
theorem Hh (w:World):Calls Tryz.prog 133 #[.nilIface] w fun e w'=>e=.returned (.int .i64 0)∧Below w.heap.size w w':=by
 go_enter Tryz.func133,Tryz.ntmps133
 go_wp2_with (first | (go_at_call 175;refine(RP _ _).mono ?_;rintro e w' ⟨rfl,rfl⟩))
 go_ret
 exact⟨rfl,(Below.refl _ _).alloc (Nat.le_refl _) _⟩
set_option maxRecDepth 100000 in
set_option maxHeartbeats 4000000 in
theorem Hi (n:Int) (w:World) (hg:w.cell? ⟨0,0,none⟩=some (.iface 292 (.agg #[.pointer (some ⟨3,179,none⟩)]))):
  Calls Tryz.prog 133 #[.iface 216 (.agg #[.int .i64 n])] w fun e w'=>e=.returned (.int .i64 n)∧Below w.heap.size w w':=by
 have bz:0<w.heap.size:=by
  rcases Nat.eq_zero_or_pos w.heap.size with h0 | h
  ·simp [World.cell?,h0] at hg
  ·exact h
 have hgA:(w.alloc (.cells #[.int .i64 0] 216)).cell? ⟨0,0,none⟩=some (.iface 292 (.agg #[.pointer (some ⟨3,179,none⟩)])):=by
  rw[World.cell?_alloc_lt _ _ ⟨0,0,none⟩ bz];exact hg
 have htA:(w.alloc (.cells #[.int .i64 0] 216)).cell? ⟨w.heap.size,0,none⟩=some (.int .i64 0):=by simp
 have hfA:(w.alloc (.cells #[.int .i64 0] 216)).frozen? ⟨w.heap.size,0,none⟩=false:=by simp
 go_enter Tryz.func133,Tryz.ntmps133
 go_wp2_with (first | (go_at_call 175;refine(RR _ _ (.int .i64 0) _ hgA htA hfA).mono ?_;rintro e w' ⟨rfl,rfl⟩))
 go_ret
 refine⟨rfl,?_⟩
 repeat (first | exact Below.refl _ _ | refine Below.alloc ?_ (by simp;try omega) _)
end Go.Proofs.YtbajncpfmemdgaaGreatDoor
end
section
namespace Go.Proofs.YtbajncpfmemdgaaGreatDoor
open Go Go.Ev
class aE [Env]:Prop where
 h:((0,0,.iface 292 (.agg #[.pointer (some ⟨3,179,none⟩)])):Nat×Nat×Value)∈Env.laid
theorem B7 (args:Array Value) (w:World):(callFunc 133 args).run Tryz.prog w=.ok (.enter 133 args) w:=oD (fn:=Tryz.f133) (by kernel_rfl) (by unfold Tryz.f133;rfl) (by kernel_rfl) args
section
variable [Env] {σ:St}
theorem Lt:ag Tryz.prog 133 [.aW] (fun v σ'=>v=.int .i64 0∧σ'=σ) σ:=
 ag.BZ ⟨_,rfl⟩ fun ρ w vs' hr hv=>by
  cases hv with
  | cons h hl=>cases hl;cases h;exact⟨B7 _ _,(Hh w).mono fun e w' hx=>⟨_,_,rfl,hx.1,.int _ _,hx.2⟩⟩
theorem Lu [aE] {n:Int}:ag Tryz.prog 133 [.iface 216 (.agg [.int .i64 n])] (fun v σ'=>v=.int .i64 n∧σ'=σ) σ:=
 ag.BZ ⟨_,rfl⟩ fun ρ w vs' hr hv=>by
  cases hv with
  | cons h hl=>
   cases hl
   cases h with
   | iface h=>
    cases h with
    | agg h=>
     cases h with
     | cons h hl=>
      cases hl;cases h
      exact⟨B7 _ _,(Hi n w (hr.aL _ _ _ (hr.laid _ aE.h)).1).mono fun e w' hx=>⟨_,_,rfl,hx.1,.int _ _,hx.2⟩⟩
end
end Go.Proofs.YtbajncpfmemdgaaGreatDoor
end
section
namespace Go.Proofs.YtbajncpfmemdgaaGreatDoor
open Go Go.Ev
structure ay where
 f0:Int
 f1:Int
 f2:Int
 f3:(List UInt8)
 deriving Inhabited
def ay.cells (e:ay):List V:=[.int .i64 e.f0,.int .i64 e.f1,.int .u64 e.f2,.str e.f3]
def ay.enc (e:ay):V:=.agg e.cells
theorem ay.clean [Env] (e:ay):∀u∈e.cells,Go.Ev.Clean u:=aw (Go.Ev.Clean.int _ _) (aw (Go.Ev.Clean.int _ _) (aw (Go.Ev.Clean.int _ _) (aw (Go.Ev.Clean.str _) cw)))
theorem ay.size (e:ay):e.cells.length=4:=rfl
structure aj where
 f0:(List UInt8)
 f1:Int
 f2:Bool
 f3:ay
 deriving Inhabited
def aj.cells (e:aj):List V:=[.str e.f0,.int .i64 e.f1,.bool e.f2,.int .i64 e.f3.f0,.int .i64 e.f3.f1,.int .u64 e.f3.f2,.str e.f3.f3]
def aj.enc (e:aj):V:=.agg e.cells
theorem aj.clean [Env] (e:aj):∀u∈e.cells,Go.Ev.Clean u:=aw (Go.Ev.Clean.str _) (aw (Go.Ev.Clean.int _ _) (aw (Go.Ev.Clean.bool _) (aw (Go.Ev.Clean.int _ _) (aw (Go.Ev.Clean.int _ _) (aw (Go.Ev.Clean.int _ _) (aw (Go.Ev.Clean.str _) cw))))))
theorem aj.size (e:aj):e.cells.length=7:=rfl
structure aa where
 f0:(List UInt8)
 f1:Int
 f2:(List aj)
 deriving Inhabited
def aa.cells (e:aa):List V:=[.str e.f0,.int .i64 e.f1,af aj.enc 7 e.f2]
def aa.enc (e:aa):V:=.agg e.cells
theorem aa.clean [Env] (e:aa):∀u∈e.cells,Go.Ev.Clean u:=aw (Go.Ev.Clean.str _) (aw (Go.Ev.Clean.int _ _) (aw (dh (enc:=aj.enc) fun x _=>aj.clean x) cw))
theorem aa.size (e:aa):e.cells.length=3:=rfl
def iZ (c:Int):Int:=if c<128 then 1 else if c<194∨c>244 then 0 else if c<224 then 2 else if c<240 then 3 else 4
def rV (c:Int):Int:=if c<194∨c>244 then 0 else if c=224 then 160 else if c=240 then 144 else 128
def rW (c:Int):Int:=if c<194∨c>244 then 0 else if c=237 then 159 else if c=244 then 143 else 191
noncomputable def mG (s:List UInt8):Int→Int→Nat→Nat→Bool
 | _,_,0,_=>true
 | lo,hi,k+1,i=>decide (i<s.length∧lo≤aI s i∧aI s i≤hi)&&mG s 128 191 k (i+1)
noncomputable def dw (s:List UInt8):Int:=if s.length=0 then 0 else if mG s (rV (aI s 0)) (rW (aI s 0)) ((iZ (aI s 0)).toNat-1) 1 then iZ (aI s 0) else 0
noncomputable def fP:Nat→List UInt8→Bool
 | 0,s=>decide (s.length=0)
 | n+1,s=>if s.length=0 then true else if dw s=0 then false else fP n (s.drop (dw s).toNat)
def Od (x:Int):Int:=x/4503599627370496%2048
def Oe (x:Int):Int:=x%4503599627370496
def Hj (x:Int):Prop:=Od x=2047∧Oe x≠0
instance (x:Int):Decidable (Hj x):=inferInstanceAs (Decidable (_∧_))
def jB (x:Int):Int:=if Hj x then 9221120237041090560 else x
def iP (v:ay):ay:=
 if v.f0=1∨v.f0=2 then⟨v.f0,v.f1,0,[]⟩ else if v.f0=3 then⟨v.f0,0,v.f2,[]⟩ else if v.f0=4∨v.f0=5 then⟨v.f0,0,0,v.f3⟩ else⟨v.f0,0,0,[]⟩
def lH (v:ay):Prop:=(v.f1=0∨v.f0=1∨v.f0=2)∧(v.f2=0∨v.f0=3)∧(v.f3=[]∨v.f0=4∨v.f0=5)
instance (v:ay):Decidable (lH v):=inferInstanceAs (Decidable (_∧_))
noncomputable def cq (v:ay):Int:=
 if v.f0<0∨v.f0≥6 then 5 else if ¬lH v then 4 else if v.f0=1∧v.f1≠0∧v.f1≠1 then 6
 else if jB v.f2≠v.f2 then 4 else if v.f3.length>64 then 2 else if v.f0=5∧fP v.f3.length v.f3=false then 7 else 0
def Hk (c:Int):Bool:=decide (97≤c∧c≤122)
def Hl (c:Int):Bool:=decide (48≤c∧c≤57∨c=95)
noncomputable def AP (s:List UInt8):Nat→Bool
 | 0=>true
 | n+1=>AP s n&&(Hk (aI s n)||(decide (n≠0)&&Hl (aI s n)))
noncomputable def aP (s:List UInt8):Int:=if s.length=0∨s.length>16 then 8 else if AP s s.length=true then 0 else 8
def jX (s:List UInt8) (q:Nat→List UInt8):Nat→Int
 | 0=>0
 | n+1=>jX s q n+if q n=s then 1 else 0
def cb (s:List UInt8) (q:Nat→List UInt8):Nat→Int
 | 0=> -1
 | n+1=>if cb s q n≠ -1 then cb s q n else if q n=s then n else -1
def gS (q:Nat→List UInt8):Nat→Bool
 | 0=>true
 | n+1=>gS q n&&decide (cb (q n) q n= -1)
def eO (q:Nat→aj):Nat→Bool
 | 0=>false
 | n+1=>eO q n||(q n).f2
noncomputable def bV (c:aj):Int:=
 if aP c.f0≠0 then aP c.f0 else if c.f1<1∨c.f1>5 then 5 else if cq c.f3≠0 then cq c.f3 else if c.f3.f0≠0∧c.f3.f0≠c.f1 then 11 else 0
def cZ (f:Nat→Int):Nat→Int
 | 0=>0
 | n+1=>if cZ f n≠0 then cZ f n else f n
noncomputable def bB (t:aa):Int:=
 if aP t.f0≠0 then aP t.f0 else if t.f2.length<1∨t.f2.length>8 then 2 else if t.f1<1∨t.f1>3∨t.f1>t.f2.length then 1
 else if cZ (fun i=>bV (t.f2.getD i default)) t.f2.length≠0 then cZ (fun i=>bV (t.f2.getD i default)) t.f2.length
 else if gS (fun i=>(t.f2.getD i default).f0) t.f2.length=false then 12 else if eO (fun i=>t.f2.getD i default) t.f1.toNat=true then 11 else 0
def yR (v:ay):Prop:=0≤v.f2∧v.f2<18446744073709551616
def tY (c:aj):Prop:=yR c.f3
def ie (t:aa):Prop:=∀c∈t.f2,tY c
def Of [Env] (g:FuncId) (vs:List V) (σ:St) (k:ah):Prop:=False
def Ed:Nat→List Nat:=(fun _=>[])
theorem YX [Env] (A:Nat→List SV→Prop) (Q:V→Prop) (c:Int):WE Tryz.prog 273 Tryz.f273 Of 0 Ed A (fun v _=>Q v) [.int .u8 c] Go.Ev.start=
  (((.u8:IntKind)=.u8∧ae (decide (c<(128:Int))) (Q (.tuple [.int .i64 (1:Int),.int .i64 (IntKind.i64.wrap c),.int .u8 (0:Int),.int .u8 (0:Int)])) (((.u8:IntKind)=.u8∧ae (decide (c<(194:Int))) (Q (.tuple [.int .i64 (0:Int),.int .i64 (0:Int),.int .u8 (0:Int),.int .u8 (0:Int)])) (((.u8:IntKind)=.u8∧ae (decide (c>(244:Int))) (Q (.tuple [.int .i64 (0:Int),.int .i64 (0:Int),.int .u8 (0:Int),.int .u8 (0:Int)])) (((.u8:IntKind)=.u8∧ae (decide (c<(224:Int))) (Q (.tuple [.int .i64 (2:Int),.int .i64 (IntKind.i64.wrap (IntKind.u8.wrap (BitVec.ofInt IntKind.u8.bits c&&& BitVec.ofInt IntKind.u8.bits (31:Int)).toNat)),.int .u8 (128:Int),.int .u8 (191:Int)])) (((.u8:IntKind)=.u8∧ae (decide (c=(224:Int))) (Q (.tuple [.int .i64 (3:Int),.int .i64 (0:Int),.int .u8 (160:Int),.int .u8 (191:Int)])) (((.u8:IntKind)=.u8∧ae (decide (c=(237:Int))) (Q (.tuple [.int .i64 (3:Int),.int .i64 (IntKind.i64.wrap (IntKind.u8.wrap (BitVec.ofInt IntKind.u8.bits c&&& BitVec.ofInt IntKind.u8.bits (15:Int)).toNat)),.int .u8 (128:Int),.int .u8 (159:Int)])) (((.u8:IntKind)=.u8∧ae (decide (c<(240:Int))) (Q (.tuple [.int .i64 (3:Int),.int .i64 (IntKind.i64.wrap (IntKind.u8.wrap (BitVec.ofInt IntKind.u8.bits c&&& BitVec.ofInt IntKind.u8.bits (15:Int)).toNat)),.int .u8 (128:Int),.int .u8 (191:Int)])) (((.u8:IntKind)=.u8∧ae (decide (c=(240:Int))) (Q (.tuple [.int .i64 (4:Int),.int .i64 (0:Int),.int .u8 (144:Int),.int .u8 (191:Int)])) (((.u8:IntKind)=.u8∧ae (decide (c=(244:Int))) (Q (.tuple [.int .i64 (4:Int),.int .i64 (4:Int),.int .u8 (128:Int),.int .u8 (143:Int)])) (Q (.tuple [.int .i64 (4:Int),.int .i64 (IntKind.i64.wrap (IntKind.u8.wrap (BitVec.ofInt IntKind.u8.bits c&&& BitVec.ofInt IntKind.u8.bits (7:Int)).toNat)),.int .u8 (128:Int),.int .u8 (191:Int)])))))))))))))))))))):=by kernel_rfl
def Lv [Env] (vs:List V) (σ:St) (k:ah):Prop:=
 match vs with
 | [.int .u8 c]=>(0≤c∧c<256)∧∀r:Int,k (.tuple [.int .i64 (iZ c),.int .i64 r,.int .u8 (rV c),.int .u8 (rW c)]) σ
 | _=>False
def JL [Env]:=kS 273 Lv Of
def yS:Nat→List Nat:=(fun i=>match i with | 0=>[0,5,6,7,8,9,10] | _=>[])
theorem YY [Env] (A:Nat→List SV→Prop) (Q:V→Prop) (s:List UInt8):WE Tryz.prog 260 Tryz.f260 JL 0 yS A (fun v _=>Q v) [.str s] Go.Ev.start=
  (ae (decide (s=[])) (Q (.tuple [.int .i64 (0:Int),.int .i64 (0:Int),.int .i64 (3:Int)])) (((0≤(0:Int)∧(0:Int)<((len s:Nat):Int))∧((0≤(iW s (0:Int))∧(iW s (0:Int))<256)∧∀r1:Int,((.i64:IntKind)=.i64∧ae (decide ((iZ (iW s (0:Int)))=(0:Int))) (Q (.tuple [.int .i64 (0:Int),.int .i64 (0:Int),.int .i64 (7:Int)])) (A 0 [.val (.str s),.val (.int .i64 (iZ (iW s (0:Int)))),.val (.int .i64 r1),.val (.int .u8 (rV (iW s (0:Int)))),.val (.int .u8 (rW (iW s (0:Int)))),.val (.int .i64 (0:Int)),.val (.int .i64 (1:Int))])))))):=by kernel_rfl
theorem YZ [Env] (A:Nat→List SV→Prop) (Q:V→Prop) (s:List UInt8) (w r lo hi i:Int):WL Tryz.prog 260 Tryz.f260 JL 0 yS A (fun v _=>Q v) 0 [.val (.str s),.val (.int .i64 w),.val (.int .i64 r),.val (.int .u8 lo),.val (.int .u8 hi),.val (.int .i64 (0:Int)),.val (.int .i64 i)]=
  (((.i64:IntKind)=.i64∧ae (decide (i<w)) (((.i64:IntKind)=.i64∧ae (decide (i≥(((len s:Nat):Int)))) (((.i64:IntKind)=.i64∧Q (.tuple [.int .i64 (0:Int),.int .i64 (0:Int),.int .i64 (3:Int)]))) (((0≤i∧i<((len s:Nat):Int))∧((.u8:IntKind)=.u8∧ae (decide ((iW s i)<lo)) (((.i64:IntKind)=.i64∧Q (.tuple [.int .i64 (0:Int),.int .i64 (0:Int),.int .i64 (7:Int)]))) (((0≤i∧i<((len s:Nat):Int))∧((.u8:IntKind)=.u8∧ae (decide ((iW s i)>hi)) (((.i64:IntKind)=.i64∧Q (.tuple [.int .i64 (0:Int),.int .i64 (0:Int),.int .i64 (7:Int)]))) ((0≤(6:Int)∧((0≤i∧i<((len s:Nat):Int))∧A 0 [.val (.str s),.val (.int .i64 w),.val (.int .i64 (IntKind.i64.wrap (BitVec.ofInt IntKind.i64.bits (IntKind.i64.wrap (r*2^min (6:Int).toNat IntKind.i64.bits))||| BitVec.ofInt IntKind.i64.bits (IntKind.i64.wrap (IntKind.u8.wrap (BitVec.ofInt IntKind.u8.bits (iW s i)&&& BitVec.ofInt IntKind.u8.bits (63:Int)).toNat))).toNat)),.val (.int .u8 (128:Int)),.val (.int .u8 (191:Int)),.val (.int .i64 (0:Int)),.val (.int .i64 (IntKind.i64.wrap (i+(1:Int))))]))))))))))) (((.i64:IntKind)=.i64∧Q (.tuple [.int .i64 r,.int .i64 w,.int .i64 (0:Int)]))))):=by kernel_rfl
def Lw [Env] (vs:List V) (σ:St) (k:ah):Prop:=
 match vs with
 | [.str s]=>(dw s≠0→∀r:Int,k (.tuple [.int .i64 r,.int .i64 (dw s),.int .i64 0]) σ)∧(dw s=0→∀e:Int,e≠0→k (.tuple [.int .i64 0,.int .i64 0,.int .i64 e]) σ)
 | _=>False
def JM [Env]:=kS 260 Lw JL
def yT:Nat→List Nat:=(fun i=>match i with | 0=>[0,3] | _=>[])
theorem Y0 [Env] (A:Nat→List SV→Prop) (Q:V→Prop) (s:List UInt8):WE Tryz.prog 235 Tryz.f235 JM 0 yT A (fun v _=>Q v) [.str s] Go.Ev.start=
  (A 0 [.val (.str s),.val (.int .i64 (0:Int))]):=by kernel_rfl
theorem Y1 [Env] (A:Nat→List SV→Prop) (Q:V→Prop) (s:List UInt8) (i:Int):WL Tryz.prog 235 Tryz.f235 JM 0 yT A (fun v _=>Q v) 0 [.val (.str s),.val (.int .i64 i)]=
  (ae (decide (s≠[])) (((dw s≠0→∀r2:Int,((.i64:IntKind)=.i64∧((0≤(dw s)∧(dw s)≤((len s:Nat):Int)∧((len s:Nat):Int)≤((len s:Nat):Int))∧A 0 [.val (.str (di (dw s).toNat (dA s ((len s:Nat):Int).toNat))),.val (.int .i64 (IntKind.i64.wrap (i+(1:Int))))])))∧(dw s=0→∀e3:Int,e3≠0→((.i64:IntKind)=.i64∧ae (decide (e3≠(0:Int))) (Q (.int .i64 (-1:Int))) (((0≤(0:Int)∧(0:Int)≤((len s:Nat):Int)∧((len s:Nat):Int)≤((len s:Nat):Int))∧A 0 [.val (.str (di (0:Int).toNat (dA s ((len s:Nat):Int).toNat))),.val (.int .i64 (IntKind.i64.wrap (i+(1:Int))))])))))) (Q (.int .i64 i))):=by kernel_rfl
def Lx [Env] (vs:List V) (σ:St) (k:ah):Prop:=
 match vs with
 | [.str s]=>s.length≤64∧∀c:Int,(0≤c↔fP s.length s=true)→k (.int .i64 c) σ
 | _=>False
def Og [Env]:=kS 235 Lx JM
def Ee:Nat→List Nat:=(fun _=>[])
theorem Y2 [Env] (A:Nat→List SV→Prop) (Q:V→Prop) (s:List UInt8):WE Tryz.prog 195 Tryz.f195 Og 0 Ee A (fun v _=>Q v) [.str s] Go.Ev.start=
  ((s.length≤64∧∀c4:Int,(0≤c4↔fP s.length s=true)→((.i64:IntKind)=.i64∧ae (decide (c4≥(0:Int))) (Q (.bool true)) (Q (.bool false))))):=by kernel_rfl
def Ly [Env] (vs:List V) (σ:St) (k:ah):Prop:=
 match vs with
 | [.str s]=>s.length≤64∧k (.bool (fP s.length s)) σ
 | _=>False
def Oh [Env]:=kS 195 Ly Og
end Go.Proofs.YtbajncpfmemdgaaGreatDoor
end
section
namespace Go.Proofs.YtbajncpfmemdgaaGreatDoor
open Go Go.Ev
def Ef:Nat→List Nat:=(fun _=>[])
theorem Y3 [Env] (A:Nat→List SV→Prop) (Q:V→Prop) (x:Int):WE Tryz.prog 194 Tryz.f194 Oh 0 Ef A (fun v _=>Q v) [.int .u64 x] Go.Ev.start=
  (ae (FloatKind.f64.format.order x.toNat x.toNat != some .eq) (Q (.int .u64 (9221120237041090560:Int))) (Q (.int .u64 x))):=by kernel_rfl
def Lz [Env] (vs:List V) (σ:St) (k:ah):Prop:=
 match vs with
 | [.int .u64 x]=>(0≤x∧x<18446744073709551616)∧k (.int .u64 (jB x)) σ
 | _=>False
def Oi [Env]:=kS 194 Lz Oh
def Eg:Nat→List Nat:=(fun _=>[])
theorem Y4 [Env] (A:Nat→List SV→Prop) (Q:V→Prop) (e:ay):WE Tryz.prog 193 Tryz.f193 Oi 0 Eg A (fun v _=>Q v) [ay.enc e] Go.Ev.start=
  (((.i64:IntKind)=.i64∧ae (decide (e.f0=(1:Int))) (Q (.agg [.int .i64 e.f0,.int .i64 e.f1,.int .u64 (0:Int),.str ([])])) (((.i64:IntKind)=.i64∧ae (decide (e.f0=(2:Int))) (Q (.agg [.int .i64 e.f0,.int .i64 e.f1,.int .u64 (0:Int),.str ([])])) (((.i64:IntKind)=.i64∧ae (decide (e.f0=(3:Int))) (Q (.agg [.int .i64 e.f0,.int .i64 (0:Int),.int .u64 e.f2,.str ([])])) (((.i64:IntKind)=.i64∧ae (decide (e.f0=(4:Int))) (Q (.agg [.int .i64 e.f0,.int .i64 (0:Int),.int .u64 (0:Int),.str e.f3])) (((.i64:IntKind)=.i64∧ae (decide (e.f0=(5:Int))) (Q (.agg [.int .i64 e.f0,.int .i64 (0:Int),.int .u64 (0:Int),.str e.f3])) (Q (.agg [.int .i64 e.f0,.int .i64 (0:Int),.int .u64 (0:Int),.str ([])])))))))))))):=by kernel_rfl
def LA [Env] (vs:List V) (σ:St) (k:ah):Prop:=
 match vs with
 | [.agg [.int .i64 a,.int .i64 b,.int .u64 c,.str s]]=>k (ay.enc (iP ⟨a,b,c,s⟩)) σ
 | _=>False
def Oj [Env]:=kS 193 LA Oi
def Eh:Nat→List Nat:=(fun _=>[])
abbrev Ol [Env] (A:Nat→List SV→Prop) (Q:V→Prop) (e:ay):Prop:=
 ((0≤e.f2∧e.f2<18446744073709551616)∧ae (V.beq (.int .u64 e.f2) (.int .u64 e.f2)&&true) (((.u64:IntKind)=.u64∧ae (decide ((jB e.f2)≠e.f2)) (Q (.int .i64 (4:Int))) (((.i64:IntKind)=.i64∧ae (decide ((((len e.f3:Nat):Int))>(64:Int))) (Q (.int .i64 (2:Int))) (((.i64:IntKind)=.i64∧ae (decide (e.f0=(5:Int))) ((e.f3.length≤64∧ae ((!(fP e.f3.length e.f3))) (Q (.int .i64 (7:Int))) (Q (.int .i64 (0:Int))))) (Q (.int .i64 (0:Int))))))))) False)
theorem Y5 [Env] (A:Nat→List SV→Prop) (Q:V→Prop) (e:ay):WE Tryz.prog 148 Tryz.f148 Oj 0 Eh A (fun v _=>Q v) [ay.enc e] Go.Ev.start=
  (((.i64:IntKind)=.i64∧ae (decide (e.f0<(0:Int))) (Q (.int .i64 (5:Int))) (((.i64:IntKind)=.i64∧ae (decide (e.f0≥(6:Int))) (Q (.int .i64 (5:Int))) (ae (V.beq (.agg [.int .i64 e.f0,.int .i64 e.f1,.int .u64 e.f2,.str e.f3]) (.agg [.int .i64 e.f0,.int .i64 e.f1,.int .u64 e.f2,.str e.f3])&&true) (((.i64:IntKind)=.i64∧ae (decide (((iP ⟨e.f0,e.f1,e.f2,e.f3⟩).f0)=e.f0)) (((.i64:IntKind)=.i64∧ae (decide (((iP ⟨e.f0,e.f1,e.f2,e.f3⟩).f1)=e.f1)) (((.u64:IntKind)=.u64∧ae (decide (((iP ⟨e.f0,e.f1,e.f2,e.f3⟩).f2)=e.f2)) (ae (decide (((iP ⟨e.f0,e.f1,e.f2,e.f3⟩).f3)=e.f3)) (((.i64:IntKind)=.i64∧ae (decide (e.f0=(1:Int))) (((.i64:IntKind)=.i64∧ae (decide (e.f1≠(0:Int))) (((.i64:IntKind)=.i64∧ae (decide (e.f1≠(1:Int))) (Q (.int .i64 (6:Int))) ((Ol A Q e)))) ((Ol A Q e)))) ((Ol A Q e)))) (Q (.int .i64 (4:Int)))) (Q (.int .i64 (4:Int))))) (Q (.int .i64 (4:Int))))) (Q (.int .i64 (4:Int))))) False))))):=by kernel_rfl
def LB [Env] (vs:List V) (σ:St) (k:ah):Prop:=
 match vs with
 | [.agg [.int .i64 a,.int .i64 b,.int .u64 c,.str s]]=>(0≤c∧c<18446744073709551616)∧k (.int .i64 (cq ⟨a,b,c,s⟩)) σ
 | _=>False
def Ei [Env]:=kS 148 LB Oj
def u7:Nat→List Nat:=(fun i=>match i with | 0=>[15,16,17] | _=>[])
theorem RS [Env] (A:Nat→List SV→Prop) (Q:V→Prop) (s:List UInt8):WE Tryz.prog 176 Tryz.f176 Ei 0 u7 A (fun v _=>Q v) [.str s] Go.Ev.start=
  (ae (decide (s=[])) (Q (.int .i64 (8:Int))) (((.i64:IntKind)=.i64∧ae (decide ((((len s:Nat):Int))>(16:Int))) (Q (.int .i64 (8:Int))) ((len s≤1099511627776∧(((len s)=(len s)∧1=1)∧A 0 [.row (len s) (du s) 1,.val (.int .i64 (((len s:Nat):Int))),.val (.int .i64 (0:Int))])))))):=by kernel_rfl
abbrev RT [Env] (A:Nat→List SV→Prop) (Q:V→Prop) (s:List UInt8) (n i:Int):Prop:=
 ((.u8:IntKind)=.u8∧ae (decide ((aI s i.toNat)=(95:Int))) (((.i64:IntKind)=.i64∧ae (decide (i=(0:Int))) (Q (.int .i64 (8:Int))) ((((len s)=(len s)∧1=1)∧A 0 [.row (len s) (du s) 1,.val (.int .i64 n),.val (.int .i64 (IntKind.i64.wrap (i+(1:Int))))])))) (((.i64:IntKind)=.i64∧ae (decide (i=(0:Int))) (Q (.int .i64 (8:Int))) (Q (.int .i64 (8:Int))))))
abbrev RU [Env] (A:Nat→List SV→Prop) (Q:V→Prop) (s:List UInt8) (n i:Int):Prop:=
 ((.u8:IntKind)=.u8∧ae (decide ((aI s i.toNat)≥(48:Int))) (((.u8:IntKind)=.u8∧ae (decide ((aI s i.toNat)≤(57:Int))) (((.i64:IntKind)=.i64∧ae (decide (i=(0:Int))) (Q (.int .i64 (8:Int))) ((((len s)=(len s)∧1=1)∧A 0 [.row (len s) (du s) 1,.val (.int .i64 n),.val (.int .i64 (IntKind.i64.wrap (i+(1:Int))))])))) ((RT A Q s n i)))) ((RT A Q s n i)))
abbrev RV [Env] (A:Nat→List SV→Prop) (Q:V→Prop) (s:List UInt8) (n i:Int):Prop:=
 ((.u8:IntKind)=.u8∧ae (decide ((aI s i.toNat)=(95:Int))) ((((len s)=(len s)∧1=1)∧A 0 [.row (len s) (du s) 1,.val (.int .i64 n),.val (.int .i64 (IntKind.i64.wrap (i+(1:Int))))])) ((((len s)=(len s)∧1=1)∧A 0 [.row (len s) (du s) 1,.val (.int .i64 n),.val (.int .i64 (IntKind.i64.wrap (i+(1:Int))))])))
theorem Y6 [Env] (A:Nat→List SV→Prop) (Q:V→Prop) (s:List UInt8) (n i:Int):WL Tryz.prog 176 Tryz.f176 Ei 0 u7 A (fun v _=>Q v) 0 [.row (len s) (du s) 1,.val (.int .i64 n),.val (.int .i64 i)]=
  (((.i64:IntKind)=.i64∧ae (decide (i<n)) (((0≤i∧i<((len s:Nat):Int))∧(i.toNat<len s∧((.u8:IntKind)=.u8∧ae (decide ((aI s i.toNat)≥(97:Int))) (((.u8:IntKind)=.u8∧ae (decide ((aI s i.toNat)≤(122:Int))) (((.u8:IntKind)=.u8∧ae (decide ((aI s i.toNat)≥(48:Int))) (((.u8:IntKind)=.u8∧ae (decide ((aI s i.toNat)≤(57:Int))) ((((len s)=(len s)∧1=1)∧A 0 [.row (len s) (du s) 1,.val (.int .i64 n),.val (.int .i64 (IntKind.i64.wrap (i+(1:Int))))])) ((RV A Q s n i)))) ((RV A Q s n i)))) ((RU A Q s n i)))) ((RU A Q s n i)))))) (Q (.int .i64 (0:Int))))):=by kernel_rfl
def LC [Env] (vs:List V) (σ:St) (k:ah):Prop:=
 match vs with
 | [.str s]=>k (.int .i64 (aP s)) σ
 | _=>False
def JN [Env]:=kS 176 LC Ei
def yU:Nat→List Nat:=(fun i=>match i with | 0=>[0,5,8,9,10] | _=>[])
theorem Y7 [Env] (A:Nat→List SV→Prop) (Q:V→Prop) (s:List UInt8) (n:Nat) (h:Nat→List UInt8):WE Tryz.prog 222 Tryz.f222 JN 0 yU A (fun v _=>Q v) [.str s,V.arr n (fun i=>V.str (h i)) 1 false false] Go.Ev.start=
  (A 0 [.val (.str s),.val (.int .i64 (0:Int)),.val (V.arr n (fun i=>V.str (h i)) 1 false false),.val (.int .i64 (((n:Nat):Int))),.val (.int .i64 (0:Int))]):=by kernel_rfl
theorem Y8 [Env] (A:Nat→List SV→Prop) (Q:V→Prop) (s:List UInt8) (n:Nat) (h:Nat→List UInt8) (c m i:Int):WL Tryz.prog 222 Tryz.f222 JN 0 yU A (fun v _=>Q v) 0 [.val (.str s),.val (.int .i64 c),.val (V.arr n (fun i=>V.str (h i)) 1 false false),.val (.int .i64 m),.val (.int .i64 i)]=
  (((.i64:IntKind)=.i64∧ae (decide (i<m)) (((0≤i∧i<((n:Nat):Int))∧ae (decide ((h i.toNat)=s)) (A 0 [.val (.str s),.val (.int .i64 (IntKind.i64.wrap (c+(1:Int)))),.val (V.arr n (fun i=>V.str (h i)) 1 false false),.val (.int .i64 m),.val (.int .i64 (IntKind.i64.wrap (i+(1:Int))))]) (A 0 [.val (.str s),.val (.int .i64 c),.val (V.arr n (fun i=>V.str (h i)) 1 false false),.val (.int .i64 m),.val (.int .i64 (IntKind.i64.wrap (i+(1:Int))))]))) (Q (.int .i64 c)))):=by kernel_rfl
def LD [Env] (vs:List V) (σ:St) (k:ah):Prop:=
 match vs with
 | [.str s,.arr n f 1 false false]=>∃q:Nat→List UInt8,f=(fun i=>V.str (q i))∧n≤1000000∧k (.int .i64 (jX s q n)) σ
 | _=>False
def JO [Env]:=kS 222 LD JN
def yV:Nat→List Nat:=(fun i=>match i with | 0=>[0,5,6,7] | _=>[])
theorem Y9 [Env] (A:Nat→List SV→Prop) (Q:V→Prop) (n:Nat) (h:Nat→List UInt8):WE Tryz.prog 178 Tryz.f178 JO 0 yV A (fun v _=>Q v) [V.arr n (fun i=>V.str (h i)) 1 false false] Go.Ev.start=
  (A 0 [.val (V.arr n (fun i=>V.str (h i)) 1 false false),.val (V.arr n (fun i=>V.str (h i)) 1 false false),.val (.int .i64 (((n:Nat):Int))),.val (.int .i64 (0:Int))]):=by kernel_rfl
theorem Za [Env] (A:Nat→List SV→Prop) (Q:V→Prop) (n:Nat) (h:Nat→List UInt8) (m i:Int):WL Tryz.prog 178 Tryz.f178 JO 0 yV A (fun v _=>Q v) 0 [.val (V.arr n (fun i=>V.str (h i)) 1 false false),.val (V.arr n (fun i=>V.str (h i)) 1 false false),.val (.int .i64 m),.val (.int .i64 i)]=
  (((.i64:IntKind)=.i64∧ae (decide (i<m)) (((0≤i∧i<((n:Nat):Int))∧(∃q:Nat→List UInt8,(fun i=>V.str (h i))=(fun i=>V.str (q i))∧n≤1000000∧((.i64:IntKind)=.i64∧ae (decide ((jX ((h i.toNat)) q n)>(1:Int))) (Q (.bool false)) (A 0 [.val (V.arr n (fun i=>V.str (h i)) 1 false false),.val (V.arr n (fun i=>V.str (h i)) 1 false false),.val (.int .i64 m),.val (.int .i64 (IntKind.i64.wrap (i+(1:Int))))]))))) (Q (.bool true)))):=by kernel_rfl
def LF [Env] (vs:List V) (σ:St) (k:ah):Prop:=
 match vs with
 | [.arr n f 1 false false]=>∃q:Nat→List UInt8,f=(fun i=>V.str (q i))∧n≤1000000∧k (.bool (gS q n)) σ
 | _=>False
def B8 [Env]:=kS 178 LF JO
end Go.Proofs.YtbajncpfmemdgaaGreatDoor
end
