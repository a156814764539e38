/- Proved: parts of the way: Froz, Loop. -/
import Derived.Test.YtbajncpfmemdgaaGreatDoorEvQ10
set_option linter.unusedVariables false
set_option linter.unusedSimpArgs false
section
namespace Go.Ev
open Go
def Clean [Env] (v:V):Prop:=∀(ρ ρ':Ren) (x:Value),(∀c o y,ρ.aL c o=some y→ρ'.aL c o=some y)→aq ρ v x→aq ρ' v x
mutual
inductive dQ [Env] (σ:St):V→V→Prop
 | clean {v:V} (h:Clean v):dQ σ v v
 | lT {v:V} {n:Nat} {g:Nat→V} {esz:Nat} {ex:Bool} (h:dQ σ v (.bk (b9 n g) esz ex)):dQ σ v (.arr n g esz ex false)
 | arr {n:Nat} {f g:Nat→V} {esz:Nat} {ex ym nn Yk:Bool} (h:∀i,i<n→bn σ (f i).cells (g i).cells) (hu:∀i,i<n→(g i).cells.length=esz) (he:ym=true→ex=true) (hn:Yk=true→nn=true):dQ σ (.arr n f esz ex nn) (.arr n g esz ym Yk)
 | own {b n esz:Nat} {f g:Nat→V} {p nn:Bool} (hb:σ.heap.get b=some (.row n f esz p)) (h:∀i,i<n→bn σ (f i).cells (g i).cells) (hu:∀i,i<n→(g i).cells.length=esz):dQ σ (.own b n esz) (.arr n g esz false nn)
 | int (k:IntKind) (n:Int):dQ σ (.int k n) (.int k n)
 | bool (b:Bool):dQ σ (.bool b) (.bool b)
 | str (s:List UInt8):dQ σ (.str s) (.str s)
 | dM (k:FloatKind) (b:Nat):dQ σ (.dM k b) (.dM k b)
 | any (i:Nat):dQ σ (.any i) (.any i)
 | dr:dQ σ .dr .dr
 | dC:dQ σ .dC .dC
 | cH:dQ σ .cH .cH
 | aV:dQ σ .aV .aV
 | ai:dQ σ .ai .ai
 | empty (esz:Nat) (ex:Bool):dQ σ .ai (.bk [] esz ex)
 | bk {es us:List V} {esz:Nat} {ex ym:Bool} (h:bn σ (ar es) (ar us)) (hu:∀v∈us,v.cells.length=esz) (hn:us.length=es.length) (he:ym=true→ex=true):dQ σ (.bk es esz ex) (.bk us esz ym)
 | aM {cs ds:List V} {o:Nat} (h:bn σ cs ds):dQ σ (.aM cs o) (.aM ds o)
 | Cw {b off n:Nat} {cs ds:List V} (hc:σ.cells b 0 n=some cs) (h:bn σ cs ds):dQ σ (.ptr b off) (.aM ds off)
 | func {g:FuncId} {x y x' y':List V} (hx:bn σ x x') (hy:bn σ y y'):dQ σ (.func (.func g) x y) (.func (.func g) x' y')
 | slice {b off n cap esz:Nat} {ex:Bool} {cs es:List V} (hc:σ.cells b off (n*esz)=some cs) (hf:bn σ cs (ar es)) (hu:∀v∈es,v.cells.length=esz) (hn:es.length=n):dQ σ (.slice b off n cap ex esz) (.bk es esz false)
 | agg {x y:List V} (h:bn σ x y):dQ σ (.agg x) (.agg y)
 | tuple {x y:List V} (h:bn σ x y):dQ σ (.tuple x) (.tuple y)
 | iface {t:TypeId} {x y:V} (h:dQ σ x y):dQ σ (.iface t x) (.iface t y)
inductive bn [Env] (σ:St):List V→List V→Prop
 | nil:bn σ [] []
 | cons {v u:V} {x y:List V} (h:dQ σ v u) (hl:bn σ x y):bn σ (v::x) (u::y)
end
theorem bn.append [Env] {σ:St}:∀ {a b c d:List V},bn σ a b→bn σ c d→bn σ (a++c) (b++d)
 | [],[],_,_,.nil,h=>h
 | _::_,_::_,_,_,.cons h hl,k=>.cons h (hl.append k)
theorem bn.clean [Env] {σ:St}:∀ {cs:List V},(∀v∈cs,Clean v)→bn σ cs cs
 | [],_=>.nil
 | v::_,h=>.cons (.clean (h v List.mem_cons_self)) (bn.clean fun u hu=>h u (List.mem_cons_of_mem _ hu))
section
variable [Env]
theorem au.clean {ρ ρ':Ren} (hi:∀c o y,ρ.aL c o=some y→ρ'.aL c o=some y):∀ {cs:List V} {xs:List Value},(∀v∈cs,Clean v)→au ρ cs xs→au ρ' cs xs
 | [],_,_,.nil=>.nil
 | v::_,_,h,.cons hx hl=>.cons (h v List.mem_cons_self _ _ _ hi hx) (au.clean hi (fun u hu=>h u (List.mem_cons_of_mem _ hu)) hl)
theorem Clean.int (k:IntKind) (n:Int):Clean (.int k n):=fun _ _ _ _ h=>by cases h;exact .int k n
theorem Clean.bool (b:Bool):Clean (.bool b):=fun _ _ _ _ h=>by cases h;exact .bool b
theorem Clean.str (s:List UInt8):Clean (.str s):=fun _ _ _ _ h=>by cases h;exact .str s
theorem Clean.aV:Clean .aV:=fun _ _ _ _ h=>by cases h;exact .aV
theorem Clean.ai:Clean .ai:=fun _ _ _ _ h=>by cases h;exact .ai
theorem Clean.dr:Clean .dr:=fun _ _ _ _ h=>by cases h;exact .dr
theorem Clean.cH:Clean .cH:=fun _ _ _ _ h=>by cases h;exact .cH
theorem Clean.dM (k:FloatKind) (b:Nat):Clean (.dM k b):=fun _ _ _ _ h=>by cases h;exact .dM k b
theorem Clean.iface {t:TypeId} {v:V} (hv:Clean v):Clean (.iface t v):=fun _ _ _ hi h=>by cases h with | iface h=>exact .iface (hv _ _ _ hi h)
theorem Clean.agg {cs:List V} (hc:∀v∈cs,Clean v):Clean (.agg cs):=fun _ _ _ hi h=>by cases h with | agg h=>exact .agg (h.clean hi hc)
theorem Clean.tuple {cs:List V} (hc:∀v∈cs,Clean v):Clean (.tuple cs):=fun _ _ _ hi h=>by cases h with | tuple h=>exact .tuple (h.clean hi hc)
theorem Clean.func (f:FuncId):Clean (.func (.func f) [] []):=fun _ _ _ _ h=>by
 cases h with
 | func hf hx hy=>
  cases hx;cases hy
  cases hf with
  | same h=>exact .func (.same h) .nil .nil
theorem Clean.fn {f:FuncId} {x y:List V} (hx:∀v∈x,Clean v) (hy:∀v∈y,Clean v):Clean (.func (.func f) x y):=fun _ _ _ hi h=>by
 cases h with
 | func hf h1 h2=>
  cases hf with
  | same h=>exact .func (.same h) (h1.clean hi hx) (h2.clean hi hy)
theorem Clean.aM {cs:List V} {o:Nat} (hc:∀v∈cs,Clean v):Clean (.aM cs o):=fun _ _ _ hi h=>by
 cases h with
 | aM hx hm=>exact .aM (hx.clean hi hc) fun k x h=>hi _ _ _ (hm k x h)
theorem Clean.bk {es:List V} {esz:Nat} {ex:Bool} (hc:∀v∈es,∀u∈v.cells,Clean u):Clean (.bk es esz ex):=fun _ _ _ hi h=>by
 have hf:∀ {l:List V},(∀v∈l,∀u∈v.cells,Clean u)→∀u∈ar l,Clean u:=by
  intro l
  induction l with
  | nil=>intro _ u hu;cases hu
  | cons v l ih=>
   intro hl u hu
   rw[bS] at hu
   rcases List.mem_append.1 hu with hu | hu
   ·exact hl v List.mem_cons_self u hu
   ·exact ih (fun w hw=>hl w (List.mem_cons_of_mem _ hw)) u hu
 cases h with
 | bk hu hx hm gB he=>exact .bk hu (hx.clean hi (hf hc)) (fun k x h=>hi _ _ _ (hm k x h)) gB he
 | dO=>exact .dO
 | dh he=>exact .dh he
theorem Clean.arr {n:Nat} {f:Nat→V} {esz:Nat} {ex nn:Bool} (hc:∀i,i<n→∀u∈(f i).cells,Clean u):Clean (.arr n f esz ex nn):=fun _ _ _ hi h=>by
 cases h with
 | arr hn h=>
  refine .arr hn (Clean.bk (fun v hv=>?_) _ _ _ hi h)
  obtain⟨i,eR,rfl⟩:=List.getElem_of_mem hv
  rw[aS] at eR
  have:=dg (f:=f) eR
  rw[List.getElem?_eq_getElem (by rw[aS];exact eR)] at this
  rw[Option.some.inj this];exact hc i eR
theorem Cx {ρ ρ':Ren} {n:Nat} {f g:Nat→V} (h:∀i,i<n→∀ys,au ρ (f i).cells ys→au ρ' (g i).cells ys):∀ {xs:List Value},au ρ (ar (b9 n f)) xs→au ρ' (ar (b9 n g)) xs:=by
 have key:∀(l:List Nat),(∀i∈l,i<n)→∀ {xs:List Value},au ρ (ar (l.map f)) xs→au ρ' (ar (l.map g)) xs:=by
  intro l
  induction l with
  | nil=>intro _ xs hx;exact(by cases hx;exact .nil)
  | cons i l ih=>
   intro hl xs hx
   rw[List.map_cons,bS] at hx⊢
   have h1:=hx.take (f i).cells.length
   have h2:=hx.drop (f i).cells.length
   rw[List.take_left' rfl] at h1
   rw[List.drop_left' rfl] at h2
   have e:xs=xs.take (f i).cells.length++xs.drop (f i).cells.length:=(List.take_append_drop _ _).symm
   rw[e]
   exact(h i (hl i List.mem_cons_self) _ h1).append (ih (fun j hj=>hl j (List.mem_cons_of_mem _ hj)) h2)
 intro xs hx
 exact key (List.range n) (fun i hi=>List.mem_range.1 hi) hx
theorem zp {ρ ρ':Ren} (hi:∀c o x,ρ.aL c o=some x→ρ'.aL c o=some x) {es us:List V} {esz:Nat} {ex ym:Bool} {x:Value} (hx:aq ρ (.bk es esz ex) x) (h:∀xs,au ρ (ar es) xs→au ρ' (ar us) xs) (hu:∀v∈us,v.cells.length=esz) (hn:us.length=es.length) (he:ym=true→ex=true):aq ρ' (.bk us esz ym) x:=by
 cases hx with
 | bk hu0 hx hm hc hex=>
  rename_i c off cap xs
  have key:=aq.bk (ρ:=ρ') (c:=c) (off:=off) (cap:=cap) (ex:=ym) hu (h _ hx) (fun k x h=>hi _ _ _ (hm k x h)) (by rw[hn];exact hc) (fun h=>(hex (he h)).trans hn.symm)
  rw[hn] at key;exact key
 | dO=>
  have:us=[]:=List.eq_nil_of_length_eq_zero hn
  subst this
  exact .dO
 | dh hex=>
  have:us=[]:=List.eq_nil_of_length_eq_zero hn
  subst this
  exact .dh fun h=>hex (he h)
theorem Kf {ρ:Ren} {w:World} {l:Loc} {n:Nat} {f:Nat→V} {esz:Nat} {p:Bool} (h:cC ρ w l (.row n f esz p)):∃xs:List Value,au ρ (ar (b9 n f)) xs∧∀(k:Nat) x,xs[k]? =some x→w.cell? ⟨l.c,l.o+k,none⟩=some x:=by
 cases h with
 | row hs hn hu hv hf hp=>
  refine oI fun k v hk=>?_
  have cL:=fZ hu
  have bB:k<n*esz:=by
   have:=(List.getElem?_eq_some_iff.1 hk).1
   rw[cX cL,aS] at this;exact this
  have h0:0<esz:=by
   rcases Nat.eq_zero_or_pos esz with h | h
   ·subst h;simp at bB
   ·exact h
  have hi:k/esz<n:=(Nat.div_lt_iff_lt_mul h0).2 bB
  have ed:k%esz<esz:=Nat.mod_lt _ h0
  have e:k/esz*esz+k%esz=k:=by rw[Nat.mul_comm];exact Nat.div_add_mod k esz
  have hg:=fT cL (dg (f:=f) hi) ed
  rw[e,hk] at hg
  obtain⟨x,hx,hr⟩:=hv _ hi _ v hg.symm
  rw[e] at hx
  exact⟨x,hx,hr⟩
end
theorem R.EJ [Env] {ρ:Ren} {σ:St} {w:World} (h:R ρ σ w) {b off k:Nat} {vs:List V} (hv:σ.cells b off k=some vs) {l:Loc} (hl:ρ b=some l):
  ∃xs:List Value,au ρ vs xs∧xs.length=k∧∀i x,xs[i]? =some x→w.cell? ⟨l.c,l.o+off+i,none⟩=some x:=by
 unfold St.cells at hv
 split at hv
 ·rename_i n z t p ro hb
  obtain⟨hlen,cS⟩:=gm _ _ hv
  have hc:=(h.cells hb hl).2.2.1
  have key:∀(vs:List V) (o:Nat),(∀i v,vs[i]? =some v→∃x,w.cell? ⟨l.c,o+i,none⟩=some x∧aq ρ v x)→
    ∃xs:List Value,au ρ vs xs∧∀i x,xs[i]? =some x→w.cell? ⟨l.c,o+i,none⟩=some x:=by
   intro vs
   induction vs with
   | nil=>intro o _;exact⟨[],.nil,fun i x hx=>by simp at hx⟩
   | cons v vs ih=>
    intro o hh
    obtain⟨x,hx,hr⟩:=hh 0 v rfl
    obtain⟨xs,lH,cS⟩:=ih (o+1) (fun i v hv=>by
     obtain⟨x,hx,hr⟩:=hh (i+1) v (by simpa using hv)
     exact⟨x,by rwa [show o+(i+1)=o+1+i by omega] at hx,hr⟩)
    refine⟨x::xs,.cons hr lH,fun i y hy=>?_⟩
    cases i with
    | zero=>simp at hy;subst hy;exact hx
    | succ i=>have:=cS i y (by simpa using hy);rwa [show o+1+i=o+(i+1) by omega] at this
  obtain⟨xs,lH,gB⟩:=key vs (l.o+off) (fun i v hi=>by
   obtain⟨x,hx,hr⟩:=hc _ _ (cS i v hi)
   exact⟨x,by rwa [show l.o+(off+i)=l.o+off+i by omega] at hx,hr⟩)
  exact⟨xs,lH,by rw[←lH.length,hlen],gB⟩
 ·cases hv
section
variable [Env] {ρ ρ':Ren} {σ τ:St} {w:World}
mutual
theorem mB (hr:R ρ τ w) (hi:∀c o x,ρ.aL c o=some x→ρ'.aL c o=some x) (hk:∀b k l,τ.heap.get b=some k→ρ b=some l→∀o x,w.cell? ⟨l.c,o,none⟩=some x→ρ'.aL l.c o=some x):
  ∀ {v u:V} {x:Value},dQ τ v u→aq ρ v x→aq ρ' u x
 | _,_,_,.int k n,.int _ _=>.int k n
 | _,_,_,.bool b,.bool _=>.bool b
 | _,_,_,.str s,.str _=>.str s
 | _,_,_,.dM k b,.dM _ _=>.dM k b
 | _,_,_,.any i,.any _=>.any i
 | _,_,_,.dr,.dr=>.dr
 | _,_,_,.dC,.dC=>.dC
 | _,_,_,.cH,.cH=>.cH
 | _,_,_,.aV,.aV=>.aV
 | _,_,_,.ai,.ai=>.ai
 | _,_,_,.empty _ _,.ai=>.dO
 | _,_,_,.bk h hu hn he,.bk (c:=c) (off:=off) (cap:=cap) hu0 hx hm hc hex=>by
  have key:=aq.bk (ρ:=ρ') (c:=c) (off:=off) (cap:=cap) (ex:=_) hu (eN hr hi hk h hx) (fun k x h=>hi _ _ _ (hm k x h)) (by rw[hn];exact hc) (fun h=>(hex (he h)).trans hn.symm)
  rw[hn] at key;exact key
 | _,_,_,.bk h hu hn he,.dO=>by
  have:_=[]:=List.eq_nil_of_length_eq_zero hn
  subst this
  exact .dO
 | _,_,_,.bk h hu hn he,.dh hex=>by
  have:_=[]:=List.eq_nil_of_length_eq_zero hn
  subst this
  exact .dh fun h=>hex (he h)
 | _,_,_,.clean h,hx=>h _ _ _ hi hx
 | _,_,_,.lT h,hx=>.arr (fun h=>by cases h) (mB hr hi hk h hx)
 | _,_,_,.arr h hu he hn,.arr Ar hx=>.arr (fun h=>Ar (hn h)) (zp hi hx (fun xs=>Cx fun i dy ys hy=>eN hr hi hk (h i dy) hy) (fZ hu) (by rw[aS,aS]) he)
 | _,_,_,@dQ.own _ _ b n esz f g p nn hb h hu,.own (l:=l) (cap:=cap) hl hc hN=>by
  obtain⟨l',cF,dD⟩:=hr.cP b _ hb
  rw[hl] at cF;cases cF
  obtain⟨xs,h1,h2⟩:=Kf dD
  have key:=aq.bk (ρ:=ρ') (c:=l.c) (off:=l.o) (cap:=cap) (ex:=false) (es:=b9 n g) (fZ hu) (Cx (fun i dy ys hy=>eN hr hi hk (h i dy) hy) h1) (fun i x hx=>hk b _ l hb hl _ _ (h2 i x hx)) (by rw[aS];exact hc) (fun h=>by cases h)
  rw[aS] at key
  exact .arr (fun _=>⟨_,_,_,rfl⟩) key
 | _,_,_,.aM h,.aM hx hm=>.aM (eN hr hi hk h hx) fun k x h=>hi _ _ _ (hm k x h)
 | _,_,_,@dQ.slice _ _ b off n cap esz ex cs es hc hf hu hn,.slice (l:=l) (off':=off') (cap':=cap') hl hex dy hN ja=>by
  subst hn
  by_cases hz:off'=l.o+off
  ·subst hz
   obtain⟨xs,h1,h2,h3⟩:=hr.EJ hc hl
   obtain⟨k,hb⟩:∃k,τ.heap.get b=some k:=by
    unfold St.cells at hc
    split at hc
    ·rename_i hb;exact⟨_,hb⟩
    ·cases hc
   refine .bk hu (eN hr hi hk hf h1) (fun i x hx=>hk b k l hb hl _ _ (h3 i x hx)) ?_ (fun h=>by cases h)
   cases ex with
   | true=>rw[(hex rfl).1];exact ja
   | false=>exact Nat.le_trans ja (dy rfl).1
  ·have h0:es=[]:=by
    cases ex with
    | true=>exact absurd (hex rfl).2 hz
    | false=>
     rcases(dy rfl).2 with h' | h'
     ·exact absurd h' hz
     ·exact List.eq_nil_of_length_eq_zero h'.1
   subst h0
   exact .bk (xs:=[]) (fun v hv=>by cases hv) .nil (fun k x h=>by simp at h) (Nat.zero_le _) (fun h=>by cases h)
 | _,_,_,@dQ.Cw _ _ b off n cs ds hc h,.ptr (l:=l) hl=>by
  obtain⟨xs,h1,h2,h3⟩:=hr.EJ hc hl
  obtain⟨k,hb⟩:∃k,τ.heap.get b=some k:=by
   unfold St.cells at hc
   split at hc
   ·rename_i hb;exact⟨_,hb⟩
   ·cases hc
  exact .aM (c:=l.c) (o:=l.o) (eN hr hi hk h h1) fun i x hx=>hk b k l hb hl _ _ (h3 i x hx)
 | _,_,_,.func hx hy,.func hf cG yc=>.func (by cases hf with
  | same h=>exact .same h) (eN hr hi hk hx cG) (eN hr hi hk hy yc)
 | _,_,_,.agg h,.agg hx=>.agg (eN hr hi hk h hx)
 | _,_,_,.tuple h,.tuple hx=>.tuple (eN hr hi hk h hx)
 | _,_,_,.iface h,.iface hx=>.iface (mB hr hi hk h hx)
theorem eN (hr:R ρ τ w) (hi:∀c o x,ρ.aL c o=some x→ρ'.aL c o=some x) (hk:∀b k l,τ.heap.get b=some k→ρ b=some l→∀o x,w.cell? ⟨l.c,o,none⟩=some x→ρ'.aL l.c o=some x):
  ∀ {vs us:List V} {xs:List Value},bn τ vs us→au ρ vs xs→au ρ' us xs
 | _,_,_,.nil,.nil=>.nil
 | _,_,_,.cons h hl,.cons hx lH=>.cons (mB hr hi hk h hx) (eN hr hi hk hl lH)
end
def void (n:Nat):St:=⟨.leaf,n⟩
omit [Env] in
theorem jI (n b:Nat):(void n).heap.get b=none:=Trie.eK b
omit [Env] in
theorem qW {n c:Nat}:¬Wr ρ (void n) c:=by
 rintro⟨b,k,l,h,_⟩
 rw[jI] at h;cases h
theorem R.void (h:R ρ σ w):R ρ (Ev.void σ.next) w:=h.sub (fun c k hc=>by rw[jI] at hc;cases hc) rfl
variable {P:Program}
theorem ag.ij {f:FuncId} {vs:List V} {Q:V→Prop} (h:ag P f vs (fun v τ=>∃u,dQ τ v u∧Q u) (Ev.void σ.next)):ag P f vs (fun v σ'=>Q v∧σ'=σ) σ:=by
 have h:=h.h
 refine⟨⟨?_,?_⟩⟩
 ·obtain⟨⟨o,τ⟩,hx⟩:=h.1
  cases o with
  | val v=>obtain⟨u,_,hu⟩:=hx;exact⟨(.val u,σ),hu,rfl⟩
  | exit e a=>exact hx.elim
 ·intro ρ w vs' hr hv
  obtain⟨g1,g2⟩:=cm.at h ρ w vs' hr.void hv
  refine⟨g1,g2.mono fun e w' hx=>?_⟩
  obtain⟨v,hJ,bD,v',⟨u,hf,hq⟩,rfl,kl,az⟩:=hx
  let bh:Ren:=⟨ρ.at',fun c o=>if c<w.heap.size then ρ.aL c o else w'.cell? ⟨c,o,none⟩⟩
  have hold:∀c,c<w.heap.size→w'.heap[c]? =w.heap[c]? :=fun c hc=>az.aJ c hc qW
  have hle:ρ.le bh:=⟨fun b l hb=>hb,fun c o x hx=>by
   show(if c<w.heap.size then ρ.aL c o else _)=some x
   rw[if_pos (eX (hr.aL c o x hx).1)];exact hx⟩
  have w8:∀c o x,bD.aL c o=some x→bh.aL c o=some x:=by
   intro c o x hx
   show(if c<w.heap.size then ρ.aL c o else _)=some x
   by_cases hc:c<w.heap.size
   ·rw[if_pos hc]
    rcases az.gv c o x hx with h1 | h1 | h1
    ·exact h1
    ·omega
    ·exact absurd h1 qW
   ·rw[if_neg hc];exact(az.r.aL c o x hx).1
  have fD:∀b k l,hJ.heap.get b=some k→bD b=some l→∀o x,w'.cell? ⟨l.c,o,none⟩=some x→bh.aL l.c o=some x:=by
   intro b k l hb hl o x hx
   show(if l.c<w.heap.size then ρ.aL l.c o else _)=some x
   rw[if_neg fun hc=>qW (az.wr l.c hc ⟨b,k,l,hb,rfl,hl,rfl⟩)]
   exact hx
  refine⟨u,σ,bh,v',⟨hq,rfl⟩,rfl,mB az.r w8 fD hf kl,⟨⟨fun b k hb=>?_,hr.inj,hr.fresh,fun b l hb=>Nat.lt_of_lt_of_le (hr.valid b l hb) az.size,fun c o x hx=>?_,hr.qG hle⟩,hle,Nat.le_refl _,fun b l hb=>.inl hb,az.size,az.os,az.tape,az.output,
   fun c hc _=>hold c hc,fun c _ h=>h,fun b k hb=>.inl ⟨k,hb⟩,fun c o x hx=>?_⟩⟩
  ·obtain⟨l,hl,hk⟩:=hr.cP b k hb
   exact⟨l,hl,hk.same hle (hold l.c (hr.valid b l hl))⟩
  ·replace hx:(if c<w.heap.size then ρ.aL c o else w'.cell? ⟨c,o,none⟩)=some x:=hx
   by_cases hc:c<w.heap.size
   ·rw[if_pos hc] at hx
    obtain⟨a1,a2⟩:=hr.aL c o x hx
    exact⟨by rw[cell?_of_block (hold c hc)];exact a1,a2⟩
   ·rw[if_neg hc] at hx
    refine⟨hx,?_⟩
    rintro⟨b,k,l,_,_,h3,h4⟩
    exact hc (by rw[←h4];exact hr.valid b l h3)
  ·replace hx:(if c<w.heap.size then ρ.aL c o else w'.cell? ⟨c,o,none⟩)=some x:=hx
   by_cases hc:c<w.heap.size
   ·rw[if_pos hc] at hx;exact .inl hx
   ·exact .inr (.inl (Nat.le_of_not_lt hc))
theorem ag.ZQ {f:FuncId} {vs us:List V} {Q:V→Prop} (hf:bn σ vs us) (hq:∀v,Q v→∀(ρ ρ':Ren) x,aq ρ v x→aq ρ' v x) (h:ag P f us (fun v _=>Q v) (Ev.void σ.next)):ag P f vs (fun v σ'=>Q v∧σ'=σ) σ:=by
 have h:=h.h
 refine⟨⟨?_,?_⟩⟩
 ·obtain⟨⟨o,τ⟩,hx⟩:=h.1
  cases o with
  | val v=>exact⟨(.val v,σ),hx,rfl⟩
  | exit e a=>exact hx.elim
 ·intro ρ w vs' hr hv
  let bz:Ren:=⟨ρ.at',fun c o=>w.cell? ⟨c,o,none⟩⟩
  have sg:R bz (Ev.void σ.next) w:=⟨fun b k hb=>(by rw[jI] at hb;cases hb),fun b b' k k' l l' hb=>(by rw[jI] at hb;cases hb),hr.fresh,hr.valid,fun c o x hx=>⟨hx,qW⟩,fun q hq=>(hr.aL _ _ _ (hr.laid q hq)).1⟩
  have si:au bz us vs':=eN hr (fun c o x hx=>(hr.aL c o x hx).1) (fun b k l _ _ o x hx=>hx) hf hv
  obtain⟨g1,g2⟩:=cm.at h bz w vs' sg si
  refine⟨g1,g2.mono fun e w' hx=>?_⟩
  obtain⟨v,hJ,bD,v',iA,rfl,kl,az⟩:=hx
  have hold:∀c,c<w.heap.size→w'.heap[c]? =w.heap[c]? :=fun c hc=>az.aJ c hc qW
  refine⟨v,σ,ρ,v',⟨iA,rfl⟩,rfl,hq v iA bD ρ v' kl,⟨⟨fun b k hb=>?_,hr.inj,hr.fresh,fun b l hb=>Nat.lt_of_lt_of_le (hr.valid b l hb) az.size,fun c o x hx=>?_,hr.laid⟩,Ren.le.refl ρ,Nat.le_refl _,fun b l hb=>.inl hb,az.size,az.os,az.tape,az.output,
   fun c hc _=>hold c hc,fun c _ h=>h,fun b k hb=>.inl ⟨k,hb⟩,fun c o x hx=>.inl hx⟩⟩
  ·obtain⟨l,hl,hk⟩:=hr.cP b k hb
   exact⟨l,hl,hk.same (Ren.le.refl ρ) (hold l.c (hr.valid b l hl))⟩
  ·obtain⟨a1,a2⟩:=hr.aL c o x hx
   exact⟨by rw[cell?_of_block (hold c (eX a1))];exact a1,a2⟩
theorem ag.Cy {f:FuncId} {vs:List V} {Q:V→Prop} (hex:∃v,Q v)
  (h:∀(ρ:Ren) (w:World) (vs':List Value),R ρ σ w→au ρ vs vs'→(callFunc f ⟨vs'⟩).run P w=.ok (.enter f ⟨vs'⟩) w∧Calls P f ⟨vs'⟩ w fun e w'=>∃v v',Q v∧e=.returned v'∧aq ρ v v'∧RowKit.Below w.heap.size w w'):
  ag P f vs (fun v σ'=>Q v∧σ'=σ) σ:=by
 refine⟨⟨let ⟨v,hv⟩:=hex;⟨(.val v,σ),hv,rfl⟩,?_⟩⟩
 intro ρ w vs' hr hv
 obtain⟨g1,g2⟩:=h ρ w vs' hr hv
 refine⟨g1,(callsIn_wide.2 g2).mono fun e w' hx=>?_⟩
 obtain⟨v,v',hq,rfl,kl,hb⟩:=hx
 refine⟨v,σ,ρ,v',⟨hq,rfl⟩,rfl,kl,⟨⟨fun b k bq=>?_,hr.inj,hr.fresh,fun b l bq=>Nat.lt_of_lt_of_le (hr.valid b l bq) hb.size,fun c o x hx=>?_,hr.laid⟩,Ren.le.refl ρ,Nat.le_refl _,fun b l hb=>.inl hb,hb.size,hb.os,hb.tape,hb.output,
  fun c hc _=>hb.block c hc,fun c _ h=>h,fun b k hb=>.inl ⟨k,hb⟩,fun c o x hx=>.inl hx⟩⟩
 ·obtain⟨l,hl,hk⟩:=hr.cP b k bq
  exact⟨l,hl,hk.same (Ren.le.refl ρ) (hb.block l.c (hr.valid b l hl))⟩
 ·obtain⟨a1,a2⟩:=hr.aL c o x hx
  exact⟨by rw[cell?_of_block (hb.block c (eX a1))];exact a1,a2⟩
end
end Go.Ev
end
section
namespace Go.Ev
open Go
def Ren.pull (ρ:Ren) (m:Nat→Option Nat):Ren:=⟨fun b=>(m b).bind ρ.at',ρ.aL⟩
theorem Ren.dj {ρ:Ren} {m:Nat→Option Nat} {b c:Nat} (h:m b=some c):ρ.pull m b=ρ c:=by
 show(m b).bind ρ.at'=_
 rw[h];rfl
theorem Ren.pF {ρ:Ren} {m:Nat→Option Nat} {b:Nat} {l:Loc} (h:ρ.pull m b=some l):∃c,m b=some c∧ρ c=some l:=by
 have h':(m b).bind ρ.at'=some l:=h
 rw[Option.bind_eq_some_iff] at h'
 exact h'
section
variable [Env]
mutual
inductive eE (m:Nat→Option Nat):V→V→Prop
 | clean {v:V} (h:Clean v):eE m v v
 | ptr {b c off:Nat} (h:m b=some c):eE m (.ptr b off) (.ptr c off)
 | fy {b c i esz off:Nat} (h:m b=some c):eE m (.fy b i esz off) (.fy c i esz off)
 | slice {b c off n cap esz:Nat} {ex:Bool} (h:m b=some c):eE m (.slice b off n cap ex esz) (.slice c off n cap ex esz)
 | own {b c n esz:Nat} (h:m b=some c):eE m (.own b n esz) (.own c n esz)
 | HH {b c n esz:Nat} (h:m b=some c) (hn:n≠0):eE m (.own b n esz) (.slice c 0 n n false esz)
 | OZ {b c n k esz:Nat} (h:m b=some c) (hn:n≤k):eE m (.own b n esz) (.slice c 0 n k true esz)
 | O0 {b c n k esz:Nat} (h:m b=some c) (hn:n≠0) (hk:n≤k):eE m (.own b n esz) (.slice c 0 n k false esz)
 | O1 {b c n esz:Nat} (h:m b=some c):eE m (.slice b 0 n n false esz) (.own c n esz)
 | map {b c:Nat} (h:m b=some c):eE m (.map b) (.map c)
 | agg {x y:List V} (h:eI m x y):eE m (.agg x) (.agg y)
 | tuple {x y:List V} (h:eI m x y):eE m (.tuple x) (.tuple y)
 | iface {t:TypeId} {x y:V} (h:eE m x y):eE m (.iface t x) (.iface t y)
inductive eI (m:Nat→Option Nat):List V→List V→Prop
 | nil:eI m [] []
 | cons {v u:V} {x y:List V} (h:eE m v u) (hl:eI m x y):eI m (v::x) (u::y)
end
mutual
theorem eE.rel {ρ:Ren} {m:Nat→Option Nat}:∀ {v u:V} {x:Value},eE m v u→aq ρ u x→aq (ρ.pull m) v x
 | _,_,_,.clean h,hx=>h ρ _ _ (fun _ _ _ h=>h) hx
 | _,_,_,.ptr h,.ptr hl=>.ptr ((Ren.dj h).trans hl)
 | _,_,_,.fy h,.fy hl=>.fy ((Ren.dj h).trans hl)
 | _,_,_,.slice h,.slice hl a b c d=>.slice ((Ren.dj h).trans hl) a b c d
 | _,_,_,.own h,.own hl a b=>.own ((Ren.dj h).trans hl) a b
 | _,_,_,.HH h hn,hx=>by
  cases hx with
  | slice hl hex dy hN nP=>
   obtain⟨h1,h2⟩:=dy rfl
   rcases h2 with h2 | h2
   ·subst h2;exact .own ((Ren.dj h).trans hl) h1 (by simpa using hN)
   ·exact absurd h2.1 hn
 | _,_,_,.OZ h hn,hx=>by
  cases hx with
  | slice hl hex dy hN nP=>
   obtain⟨rfl,rfl⟩:=hex rfl
   exact .own ((Ren.dj h).trans hl) hn (by simpa using hN)
 | _,_,_,.O0 h hn hk,hx=>by
  cases hx with
  | slice hl hex dy hN nP=>
   obtain⟨h1,h2⟩:=dy rfl
   rcases h2 with h2 | h2
   ·subst h2;exact .own ((Ren.dj h).trans hl) (Nat.le_trans hk h1) (by simpa using hN)
   ·exact absurd h2.1 hn
 | _,_,_,.O1 h,.own hl hc hN=>.slice ((Ren.dj h).trans hl) (fun h=>by cases h) (fun _=>⟨hc,.inl (Nat.add_zero _).symm⟩) hN (Nat.le_refl _)
 | _,_,_,.map h,.map hl=>.map ((Ren.dj h).trans hl)
 | _,_,_,.agg h,.agg hx=>.agg (eI.rel h hx)
 | _,_,_,.tuple h,.tuple hx=>.tuple (eI.rel h hx)
 | _,_,_,.iface h,.iface hx=>.iface (eE.rel h hx)
theorem eI.rel {ρ:Ren} {m:Nat→Option Nat}:∀ {vs us:List V} {xs:List Value},eI m vs us→au ρ us xs→au (ρ.pull m) vs xs
 | _,_,_,.nil,.nil=>.nil
 | _,_,_,.cons h hl,.cons hx lH=>.cons (eE.rel h hx) (eI.rel hl lH)
end
theorem eI.length {m:Nat→Option Nat}:∀ {vs us:List V},eI m vs us→vs.length=us.length
 | _,_,.nil=>rfl
 | _,_,.cons _ hl=>congrArg (·+1) hl.length
theorem eI.get {m:Nat→Option Nat}:∀ {vs us:List V},eI m vs us→∀ {k:Nat} {v:V},vs[k]? =some v→∃u,us[k]? =some u∧eE m v u
 | _,_,.nil,k,v,h=>by simp at h
 | _,_,.cons h hl,0,v,hk=>by simp at hk;subst hk;exact⟨_,rfl,h⟩
 | _,_,.cons h hl,k+1,v,hk=>hl.get (k:=k) (by simpa using hk)
theorem eI.clean {m:Nat→Option Nat}:∀ {cs:List V},(∀v∈cs,Clean v)→eI m cs cs
 | [],_=>.nil
 | v::_,h=>.cons (.clean (h v List.mem_cons_self)) (eI.clean fun u hu=>h u (List.mem_cons_of_mem _ hu))
inductive ff (m:Nat→Option Nat):bV→bV→Prop
 | cells {n:Nat} {z z':List V} {t t':Trie V} {p p' ro:Bool} (hp:p=true→p'=true) (h:∀i v,cellOf n z t i=some v→∃u,cellOf n z' t' i=some u∧eE m v u):ff m (.cells n z t p ro) (.cells n z' t' p' ro)
 | row {n:Nat} {f g:Nat→V} {esz:Nat} {p p':Bool} (hp:p=true→p'=true) (h:∀i,i<n→eI m (f i).cells (g i).cells):ff m (.row n f esz p) (.row n g esz p')
 | vb {n:Nat} {f:Nat→V} {esz:Nat} {z:List V} {t:Trie V} {p p':Bool} (hp:p=true→p'=true) (hu:∀i,i<n→(f i).cells.length=esz)
   (h:∀i,i<n→∀k v,(f i).cells[k]? =some v→∃u,cellOf (n*esz) z t (i*esz+k)=some u∧eE m v u):ff m (.row n f esz p) (.cells (n*esz) z t p' false)
 | EK {n N:Nat} {f:Nat→V} {esz:Nat} {z:List V} {t:Trie V} {p p':Bool} (hN:n*esz≤N) (hp:p=true→p'=true) (hu:∀i,i<n→(f i).cells.length=esz)
   (h:∀i,i<n→∀k v,(f i).cells[k]? =some v→∃u,cellOf N z t (i*esz+k)=some u∧eE m v u):ff m (.row n f esz p) (.cells N z t p' false)
 | ofRow {n:Nat} {f:Nat→V} {esz:Nat} {z:List V} {t:Trie V} {p:Bool}
   (h:∀i v,cellOf (n*esz) z t i=some v→∃j k u,j<n∧i=j*esz+k∧(f j).cells[k]? =some u∧eE m v u):ff m (.cells (n*esz) z t false false) (.row n f esz p)
 | deferred:ff m .deferred .deferred
theorem ff.ok {m:Nat→Option Nat} {ρ:Ren} {w:World} {l:Loc} {k k':bV} (h:ff m k k') (hk:cC ρ w l k'):cC (ρ.pull m) w l k:=by
 cases h with
 | cells xR h=>
  cases hk with
  | cells hs hn hv hf hp=>
   refine .cells hs hn (fun i v hi=>?_) hf fun h=>hp (xR h)
   obtain⟨u,hu,hr⟩:=h i v hi
   obtain⟨x,hx,tP⟩:=hv i u hu
   exact⟨x,hx,hr.rel tP⟩
 | row xR h=>
  cases hk with
  | row hs hn hu hv hf hp=>
   refine .row hs hn (fun i hi=>by rw[(h i hi).length];exact hu i hi) (fun i hi k v hk=>?_) hf fun h=>hp (xR h)
   obtain⟨u,hu,hr⟩:=(h i hi).get hk
   obtain⟨x,hx,tP⟩:=hv i hi k u hu
   exact⟨x,hx,hr.rel tP⟩
 | EK hN xR hu h=>
  cases hk with
  | cells hs hn hv hf hp=>
   refine .row hs (by omega) hu (fun i hi k v hk=>?_) (hf rfl) fun h=>hp (xR h)
   obtain⟨u,hu,hr⟩:=h i hi k v hk
   obtain⟨x,hx,tP⟩:=hv _ u hu
   exact⟨x,hx,hr.rel tP⟩
 | ofRow h=>
  cases hk with
  | row hs hn hu hv hf hp=>
   refine .cells hs hn (fun i v hi=>?_) (fun _=>hf) fun h=>by cases h
   obtain⟨j,k,u,hj,rfl,hk,hr⟩:=h i v hi
   obtain⟨x,hx,tP⟩:=hv j hj k u hk
   exact⟨x,hx,hr.rel tP⟩
 | deferred=>
  cases hk with
  | deferred h=>exact .deferred h
 | vb xR hu h=>
  cases hk with
  | cells hs hn hv hf hp=>
   refine .row hs hn hu (fun i hi k v hk=>?_) (hf rfl) fun h=>hp (xR h)
   obtain⟨u,hu,hr⟩:=h i hi k v hk
   obtain⟨x,hx,tP⟩:=hv _ u hu
   exact⟨x,hx,hr.rel tP⟩
structure qX (n₀:Nat) (m:Nat→Option Nat) (a:Act) (σ:St) (b:Act) (τ:St):Prop where
 size:a.size=b.size
 da:a.defers=[]
 db:b.defers=[]
 HI:∀i v,a.tmps.get i=some v→∃u,b.tmps.get i=some u∧eE m v u
 heap:∀i k,σ.heap.get i=some k→∃c k',m i=some c∧τ.heap.get c=some k'∧ff m k k'
 inj:∀i j c,m i=some c→m j=some c→i=j
 range:∀i,σ.next≤i→m i=none
 base:∀i,i<n₀→m i=some i
 le:n₀≤σ.next
section
variable {n₀:Nat} {m:Nat→Option Nat} {a b:Act} {σ τ:St} {ρ:Ren} {w:World}
theorem qX.wr (h:qX n₀ m a σ b τ) {c:Nat} (hw:Wr (ρ.pull m) σ c):Wr ρ τ c:=by
 obtain⟨i,k,l,h1,_,h3,h4⟩:=hw
 obtain⟨j,k',e1,e2,_⟩:=h.heap i k h1
 exact⟨j,k',l,e2,rfl,(Ren.dj e1).symm.trans h3,h4⟩
theorem qX.r (h:qX n₀ m a σ b τ) (hr:R ρ τ w):R (ρ.pull m) σ w:=by
 refine⟨fun i k hk=>?_,fun i j k k' l l' h1 h2 g1 g2 e=>?_,fun i hi=>?_,fun i l hl=>?_,fun c o x hx=>⟨(hr.aL c o x hx).1,fun hw=>(hr.aL c o x hx).2 (h.wr hw)⟩,hr.laid⟩
 ·obtain⟨c,k',e1,e2,e3⟩:=h.heap i k hk
  obtain⟨l,hl,dD⟩:=hr.cP c k' e2
  exact⟨l,(Ren.dj e1).trans hl,e3.ok dD⟩
 ·obtain⟨c,q,e1,e2,_⟩:=h.heap i k h1
  obtain⟨d,q',Kg,Sw,_⟩:=h.heap j k' h2
  have:=hr.inj c d q q' l l' e2 Sw ((Ren.dj e1).symm.trans g1) ((Ren.dj Kg).symm.trans g2) e
  subst this
  exact h.inj i j c e1 Kg
 ·show(m i).bind ρ.at'=none
  rw[h.range i hi];rfl
 ·obtain⟨c,_,hc⟩:=Ren.pF hl
  exact hr.valid c l hc
theorem qX.act (h:qX n₀ m a σ b τ) {a':Go.Act} (ha:bC ρ b a'):bC (ρ.pull m) a a':=by
 refine⟨fun i v hv=>?_,h.size.trans ha.size,?_⟩
 ·obtain⟨u,hu,hr⟩:=h.HI i v hv
  obtain⟨x,hx,tP⟩:=ha.tmps i u hu
  exact⟨x,hx,hr.rel tP⟩
 ·have hd:=ha.defers
  rw[h.db] at hd
  rw[h.da]
  generalize a'.defers=d at hd⊢
  cases hd
  exact .nil
structure gG (n₀:Nat) (ρ:Ren) (σ:St) (w:World) (ρ':Ren) (σ':St) (w':World):Prop where
 r:R ρ' σ' w'
 le:∀b l,b<n₀→ρ b=some l→ρ' b=some l
 aL:∀c o x,ρ.aL c o=some x→ρ'.aL c o=some x
 next:n₀≤σ'.next
 iy:∀b l,b<n₀→ρ' b=some l→ρ b=some l
 size:w.heap.size≤w'.heap.size
 os:w'.os=w.os
 tape:w'.tape=w.tape
 output:w'.output=w.output
 aJ:∀c,c<w.heap.size→¬Wr ρ σ c→w'.heap[c]? =w.heap[c]?
 wr:∀c,c<w.heap.size→Wr ρ' σ' c→Wr ρ σ c
 iM:∀b k,b<n₀→σ'.heap.get b=some k→∃k',σ.heap.get b=some k'
 gv:∀c o x,ρ'.aL c o=some x→ρ.aL c o=some x∨w.heap.size≤c∨Wr ρ σ c
theorem gG.of {ρ':Ren} {σ':St} {w':World} (hn:n₀≤σ.next) (h:bf pw ρ σ w ρ' σ' w'):gG n₀ ρ σ w ρ' σ' w':=
 ⟨h.r,fun b l _ hb=>h.le b l hb,h.le.aL,Nat.le_trans hn h.next,fun b l hb hl=>by
  rcases h.iy b l hl with h1 | h1 | h1
  ·exact h1
  ·omega
  ·exact h1.elim,h.size,h.os,h.tape,h.output,h.aJ,h.wr,fun b k hb hk=>by
  rcases h.iM b k hk with h1 | h1 | h1
  ·exact h1
  ·omega
  ·exact h1.elim,h.gv⟩
theorem gG.to {ρ':Ren} {σ':St} {w':World} (hr:R ρ σ w) (h:gG σ.next ρ σ w ρ' σ' w'):bf pw ρ σ w ρ' σ' w':=
 ⟨h.r,⟨fun b l hb=>h.le b l (Nat.lt_of_not_le fun hle=>by rw[hr.fresh b hle] at hb;cases hb) hb,h.aL⟩,h.next,fun b l hb=>by
  by_cases bB:b<σ.next
  ·exact .inl (h.iy b l bB hb)
  ·exact .inr (.inl (Nat.le_of_not_lt bB)),h.size,h.os,h.tape,h.output,h.aJ,h.wr,fun b k hb=>by
  by_cases bB:b<σ.next
  ·exact .inl (h.iM b k bB hb)
  ·exact .inr (.inl (Nat.le_of_not_lt bB)),h.gv⟩
theorem gG.trans {bD bh:Ren} {aB bG:St} {bg fr:World} (h:gG n₀ ρ σ w bD aB bg) (k:gG n₀ bD aB bg bh bG fr):gG n₀ ρ σ w bh bG fr:=
 ⟨k.r,fun b l hb hl=>k.le b l hb (h.le b l hb hl),fun c o x hx=>k.aL c o x (h.aL c o x hx),k.next,fun b l hb hl=>h.iy b l hb (k.iy b l hb hl),Nat.le_trans h.size k.size,k.os.trans h.os,k.tape.trans h.tape,k.output.trans h.output,
  fun c hc hn=>(k.aJ c (Nat.lt_of_lt_of_le hc h.size) fun hw=>hn (h.wr c hc hw)).trans (h.aJ c hc hn),
  fun c hc hw=>h.wr c hc (k.wr c (Nat.lt_of_lt_of_le hc h.size) hw),
  fun b q hb hq=>let ⟨q',h1⟩:=k.iM b q hb hq;h.iM b q' hb h1,
  fun c o x hx=>by
   rcases k.gv c o x hx with h1 | h1 | h1
   ·exact h.gv c o x h1
   ·exact .inr (.inl (Nat.le_trans h.size h1))
   ·by_cases hc:c<w.heap.size
    ·exact .inr (.inr (h.wr c hc h1))
    ·exact .inr (.inl (Nat.le_of_not_lt hc))⟩
theorem gG.EL {bD:Ren} {bg:World} {σ₀:St} {bz:Ren} {eY:World} (h:gG n₀ bz σ₀ eY bD τ bg) (hf:qX n₀ m a σ b τ):gG n₀ bz σ₀ eY (bD.pull m) σ bg:=
 ⟨hf.r h.r,fun b l hb hl=>(Ren.dj (hf.base b hb)).trans (h.le b l hb hl),h.aL,hf.le,fun b l hb hl=>h.iy b l hb ((Ren.dj (hf.base b hb)).symm.trans hl),h.size,h.os,h.tape,h.output,h.aJ,
  fun c hc hw=>h.wr c hc (hf.wr hw),fun b k hb hk=>by
   obtain⟨c,k',e1,e2,_⟩:=hf.heap b k hk
   rw[hf.base b hb] at e1
   cases e1
   exact h.iM b k' hb e2,h.gv⟩
theorem qX.stp {bD:Ren} {aB:St} {bg:World} (hf:qX n₀ m a σ b τ) (h:gG n₀ (ρ.pull m) σ w bD aB bg):gG n₀ ρ τ w bD aB bg:=
 ⟨h.r,fun b l hb hl=>h.le b l hb ((Ren.dj (hf.base b hb)).trans hl),h.aL,h.next,fun b l hb hl=>(Ren.dj (hf.base b hb)).symm.trans (h.iy b l hb hl),h.size,h.os,h.tape,h.output,
  fun c hc hn=>h.aJ c hc fun hw=>hn (hf.wr hw),fun c hc hw=>hf.wr (h.wr c hc hw),fun b k hb hk=>by
   obtain⟨k',ed⟩:=h.iM b k hb hk
   obtain⟨c,RW,e1,e2,_⟩:=hf.heap b k' ed
   rw[hf.base b hb] at e1
   cases e1
   exact⟨RW,e2⟩,fun c o x hx=>by
   rcases h.gv c o x hx with h1 | h1 | h1
   ·exact .inl h1
   ·exact .inr (.inl h1)
   ·exact .inr (.inr (hf.wr h1))⟩
end
def ez (n₀:Nat) (Q:cj) (ρ:Ren) (σ:St) (w:World):Exit→Go.Act→World→Prop:=
 fun e a' w'=>∃x a σ' ρ',Q x a σ'∧e=qO x∧bC ρ' a a'∧gG n₀ ρ σ w ρ' σ' w'
structure cV (P:Program) (n₀:Nat) (x:Code) (Q:cj) (a:Act) (σ:St):Prop where
 ex:∃e a σ,Q e a σ
 h:n₀≤σ.next→∀(ρ:Ren) (w:World) (a':Go.Act),R ρ σ w→bC ρ a a'→(Code.loop x).wpIn Fence.wide 0 P (ez n₀ Q ρ σ w) a' w∧jD Fence.wide P x (ez n₀ Q ρ σ w) a' w
section
variable {P:Program} [eJ P] {fn:FuncId} {n₀:Nat} {x:Code} {Q Q':cj} {a b:Act} {σ τ:St}
theorem cV.loop (h:cp P fn none x (ig (cV P n₀ x Q) Q) a σ):cV P n₀ x Q a σ:=by
 have hs:=h.yl
 constructor
 ·obtain⟨⟨o,τ⟩,hx⟩:=hs.1
  cases o with
  | val v=>exact hx.elim
  | exit e a=>cases e with
   | normal=>exact cV.ex hx
   | exit i=>exact⟨_,_,_,hx⟩
   | goto i=>exact⟨_,_,_,hx⟩
   | ret=>exact⟨_,_,_,hx⟩
 ·intro hn ρ w a' hr ha
  refine oQ (wpIn_mono (cm.at hs ρ w a' Fence.wide hr ha rfl).1 fun e aZ bg fe=>?_)
  obtain⟨y,aR,bG,bh,h1,rfl,h3,h4⟩:=fe
  have Kh:=gG.of hn h4
  cases y with
  | normal=>
   have h1:cV P n₀ x Q aR bG:=h1
   refine(h1.h Kh.next bh bg aZ h4.r h3).2.mono fun e a w hx=>?_
   obtain⟨z,Ca,ky,pB,g1,g2,g3,g4⟩:=hx
   exact⟨z,Ca,ky,pB,g1,g2,g3,Kh.trans g4⟩
  | exit i=>exact⟨.exit i,aR,bG,bh,h1,rfl,h3,Kh⟩
  | goto i=>exact⟨.goto i,aR,bG,bh,h1,rfl,h3,Kh⟩
  | ret=>exact⟨.ret,aR,bG,bh,h1,rfl,h3,Kh⟩
omit [eJ P] in
theorem cV.EL {m:Nat→Option Nat} (hf:qX n₀ m a σ b τ) (h:cV P n₀ x Q a σ):cV P n₀ x Q b τ:=by
 refine⟨h.ex,fun _ ρ w a' hr ha=>?_⟩
 have hq:∀e a' w',ez n₀ Q (ρ.pull m) σ w e a' w'→ez n₀ Q ρ τ w e a' w':=by
  rintro e a' w' ⟨y,aZ,aB,bD,h1,h2,h3,h4⟩
  exact⟨y,aZ,aB,bD,h1,h2,h3,hf.stp h4⟩
 obtain⟨h1,h2⟩:=h.h hf.le _ w a' (hf.r hr) (hf.act ha)
 exact⟨wpIn_mono h1 fun _ _ _ hx=>hq _ _ _ hx,h2.mono fun _ _ _ hx=>hq _ _ _ hx⟩
omit [eJ P] in
theorem cV.post (h:cV P n₀ x Q' a σ) (hq:∀e b τ,Q' e b τ→∃m a σ,qX n₀ m a σ b τ∧Q e a σ):cV P n₀ x Q a σ:=by
 refine⟨?_,fun hn ρ w a' hr ha=>?_⟩
 ·obtain⟨e,b,τ,hx⟩:=h.ex
  obtain⟨_,a,σ,_,h2⟩:=hq e b τ hx
  exact⟨e,a,σ,h2⟩
 ·have key:∀e a' w',ez n₀ Q' ρ σ w e a' w'→ez n₀ Q ρ σ w e a' w':=by
   rintro e a' w' ⟨y,b,τ,bD,h1,rfl,h3,h4⟩
   obtain⟨m,aR,bG,hf,h5⟩:=hq y b τ h1
   exact⟨y,aR,bG,bD.pull m,h5,rfl,hf.act h3,h4.EL hf⟩
  obtain⟨h1,h2⟩:=h.h hn ρ w a' hr ha
  exact⟨wpIn_mono h1 fun _ _ _ hx=>key _ _ _ hx,h2.mono fun _ _ _ hx=>key _ _ _ hx⟩
omit [eJ P] in
theorem cV.mono (h:cV P n₀ x Q' a σ) (hq:∀e b τ,Q' e b τ→Q e b τ):cV P n₀ x Q a σ:=by
 refine⟨let ⟨e,b,τ,hx⟩:=h.ex;⟨e,b,τ,hq _ _ _ hx⟩,fun hn ρ w a' hr ha=>?_⟩
 have key:∀e a' w',ez n₀ Q' ρ σ w e a' w'→ez n₀ Q ρ σ w e a' w':=by
  rintro e a' w' ⟨y,b,τ,bD,h1,h2,h3,h4⟩
  exact⟨y,b,τ,bD,hq _ _ _ h1,h2,h3,h4⟩
 obtain⟨h1,h2⟩:=h.h hn ρ w a' hr ha
 exact⟨wpIn_mono h1 fun _ _ _ hx=>key _ _ _ hx,h2.mono fun _ _ _ hx=>key _ _ _ hx⟩
end
end
end Go.Ev
end
