/- Proved: parts of the way: Froz, Loop. -/
import Derived.Test.YtbajncpfmemdgaaGreatDoorEvQ11
section
namespace Go.Ev
open Go
def Clean [Env] (v:V):Prop:=∀(ρ ρ':aA) (x:Value),(∀c o y,ρ.aV c o=some y→ρ'.aV c o=some y)→au ρ v x→au ρ' v x
mutual
inductive ey [Env] (σ:St):V→V→Prop
 | clean {v:V} (h:Clean v):ey σ v v
 | kR {v:V} {n:Nat} {g:Nat→V} {esz:Nat} {ex:Bool} (h:ey σ v (.bX (cn n g) esz ex)):ey σ v (.arr n g esz ex false)
 | arr {n:Nat} {f g:Nat→V} {esz:Nat} {ex zq nn nn':Bool} (h:∀i,i<n→bH σ (f i).cells (g i).cells) (hu:∀i,i<n→(g i).cells.length=esz) (he:zq=true→ex=true) (hn:nn'=true→nn=true):ey σ (.arr n f esz ex nn) (.arr n g esz zq nn')
 | own {b n esz:Nat} {f g:Nat→V} {p nn:Bool} (hb:σ.heap.get b=some (.row n f esz p)) (h:∀i,i<n→bH σ (f i).cells (g i).cells) (hu:∀i,i<n→(g i).cells.length=esz):ey σ (.own b n esz) (.arr n g esz false nn)
 | int (k:IntKind) (n:Int):ey σ (.int k n) (.int k n)
 | bool (b:Bool):ey σ (.bool b) (.bool b)
 | str (s:List UInt8):ey σ (.str s) (.str s)
 | dO (k:FloatKind) (b:Nat):ey σ (.dO k b) (.dO k b)
 | any (i:Nat):ey σ (.any i) (.any i)
 | dA:ey σ .dA .dA
 | dc:ey σ .dc .dc
 | cR:ey σ .cR .cR
 | bh:ey σ .bh .bh
 | ak:ey σ .ak .ak
 | empty (esz:Nat) (ex:Bool):ey σ .ak (.bX [] esz ex)
 | bX {es us:List V} {esz:Nat} {ex zq:Bool} (h:bH σ (ax es) (ax us)) (hu:∀v∈us,v.cells.length=esz) (hn:us.length=es.length) (he:zq=true→ex=true):ey σ (.bX es esz ex) (.bX us esz zq)
 | aU {cs ds:List V} {o:Nat} (h:bH σ cs ds):ey σ (.aU cs o) (.aU ds o)
 | EN {b off n:Nat} {cs ds:List V} (hc:σ.cells b 0 n=some cs) (h:bH σ cs ds):ey σ (.ptr b off) (.aU ds off)
 | func {g:FuncId} {x y x' y':List V} (hx:bH σ x x') (hy:bH σ y y'):ey σ (.func (.func g) x y) (.func (.func g) x' y')
 | slice {b off n cap esz:Nat} {ex:Bool} {cs es:List V} (hc:σ.cells b off (n*esz)=some cs) (hf:bH σ cs (ax es)) (hu:∀v∈es,v.cells.length=esz) (hn:es.length=n):ey σ (.slice b off n cap ex esz) (.bX es esz false)
 | agg {x y:List V} (h:bH σ x y):ey σ (.agg x) (.agg y)
 | tuple {x y:List V} (h:bH σ x y):ey σ (.tuple x) (.tuple y)
 | iface {t:TypeId} {x y:V} (h:ey σ x y):ey σ (.iface t x) (.iface t y)
inductive bH [Env] (σ:St):List V→List V→Prop
 | nil:bH σ [] []
 | cons {v u:V} {x y:List V} (h:ey σ v u) (hl:bH σ x y):bH σ (v::x) (u::y)
end
theorem bH.append [Env] {σ:St}:∀ {a b c d:List V},bH σ a b→bH σ c d→bH σ (a++c) (b++d)
 | [],[],_,_,.nil,h=>h
 | _::_,_::_,_,_,.cons h hl,k=>.cons h (hl.append k)
theorem bH.clean [Env] {σ:St}:∀ {cs:List V},(∀v∈cs,Clean v)→bH σ cs cs
 | [],_=>.nil
 | v::_,h=>.cons (.clean (h v List.mem_cons_self)) (bH.clean fun u hu=>h u (List.mem_cons_of_mem _ hu))
section
variable [Env]
theorem ay.clean {ρ ρ':aA} (hi:∀c o y,ρ.aV c o=some y→ρ'.aV c o=some y):∀ {cs:List V} {xs:List Value},(∀v∈cs,Clean v)→ay ρ cs xs→ay ρ' cs xs
 | [],_,_,.nil=>.nil
 | v::_,_,h,.cons hx hl=>.cons (h v List.mem_cons_self _ _ _ hi hx) (ay.clean hi (fun u hu=>h u (List.mem_cons_of_mem _ hu)) hl)
theorem Clean.int (k:IntKind) (n:Int):Clean (.int k n):=fun _ _ _ _ h=>by cases h;exact .int k n
theorem Clean.bool (b:Bool):Clean (.bool b):=fun _ _ _ _ h=>by cases h;exact .bool b
theorem Clean.str (s:List UInt8):Clean (.str s):=fun _ _ _ _ h=>by cases h;exact .str s
theorem Clean.bh:Clean .bh:=fun _ _ _ _ h=>by cases h;exact .bh
theorem Clean.ak:Clean .ak:=fun _ _ _ _ h=>by cases h;exact .ak
theorem Clean.dA:Clean .dA:=fun _ _ _ _ h=>by cases h;exact .dA
theorem Clean.cR:Clean .cR:=fun _ _ _ _ h=>by cases h;exact .cR
theorem Clean.dO (k:FloatKind) (b:Nat):Clean (.dO k b):=fun _ _ _ _ h=>by cases h;exact .dO k b
theorem Clean.iface {t:TypeId} {v:V} (hv:Clean v):Clean (.iface t v):=fun _ _ _ hi h=>by cases h with | iface h=>exact .iface (hv _ _ _ hi h)
theorem Clean.agg {cs:List V} (hc:∀v∈cs,Clean v):Clean (.agg cs):=fun _ _ _ hi h=>by cases h with | agg h=>exact .agg (h.clean hi hc)
theorem Clean.tuple {cs:List V} (hc:∀v∈cs,Clean v):Clean (.tuple cs):=fun _ _ _ hi h=>by cases h with | tuple h=>exact .tuple (h.clean hi hc)
theorem Clean.func (f:FuncId):Clean (.func (.func f) [] []):=fun _ _ _ _ h=>by
 cases h with
 | func hf hx hy=>
  cases hx;cases hy
  cases hf with
  | same h=>exact .func (.same h) .nil .nil
theorem Clean.fn {f:FuncId} {x y:List V} (hx:∀v∈x,Clean v) (hy:∀v∈y,Clean v):Clean (.func (.func f) x y):=fun _ _ _ hi h=>by
 cases h with
 | func hf h1 h2=>
  cases hf with
  | same h=>exact .func (.same h) (h1.clean hi hx) (h2.clean hi hy)
theorem Clean.aU {cs:List V} {o:Nat} (hc:∀v∈cs,Clean v):Clean (.aU cs o):=fun _ _ _ hi h=>by
 cases h with
 | aU hx hm=>exact .aU (hx.clean hi hc) fun k x h=>hi _ _ _ (hm k x h)
theorem Clean.bX {es:List V} {esz:Nat} {ex:Bool} (hc:∀v∈es,∀u∈v.cells,Clean u):Clean (.bX es esz ex):=fun _ _ _ hi h=>by
 have hf:∀ {l:List V},(∀v∈l,∀u∈v.cells,Clean u)→∀u∈ax l,Clean u:=by
  intro l
  induction l with
  | nil=>intro _ u hu;cases hu
  | cons v l ih=>
   intro hl u hu
   rw[ca] at hu
   rcases List.mem_append.1 hu with hu | hu
   ·exact hl v List.mem_cons_self u hu
   ·exact ih (fun w hw=>hl w (List.mem_cons_of_mem _ hw)) u hu
 cases h with
 | bX hu hx hm fu he=>exact .bX hu (hx.clean hi (hf hc)) (fun k x h=>hi _ _ _ (hm k x h)) fu he
 | dP=>exact .dP
 | dt he=>exact .dt he
theorem Clean.arr {n:Nat} {f:Nat→V} {esz:Nat} {ex nn:Bool} (hc:∀i,i<n→∀u∈(f i).cells,Clean u):Clean (.arr n f esz ex nn):=fun _ _ _ hi h=>by
 cases h with
 | arr hn h=>
  refine .arr hn (Clean.bX (fun v hv=>?_) _ _ _ hi h)
  obtain⟨i,eW,rfl⟩:=List.getElem_of_mem hv
  rw[bg] at eW
  have:=dB (f:=f) eW
  rw[List.getElem?_eq_getElem (by rw[bg];exact eW)] at this
  rw[Option.some.inj this];exact hc i eW
theorem EO {ρ ρ':aA} {n:Nat} {f g:Nat→V} (h:∀i,i<n→∀ys,ay ρ (f i).cells ys→ay ρ' (g i).cells ys):∀ {xs:List Value},ay ρ (ax (cn n f)) xs→ay ρ' (ax (cn n g)) xs:=by
 have key:∀(l:List Nat),(∀i∈l,i<n)→∀ {xs:List Value},ay ρ (ax (l.map f)) xs→ay ρ' (ax (l.map g)) xs:=by
  intro l
  induction l with
  | nil=>intro _ xs hx;exact(by cases hx;exact .nil)
  | cons i l ih=>
   intro hl xs hx
   rw[List.map_cons,ca] at hx⊢
   have h1:=hx.take (f i).cells.length
   have h2:=hx.drop (f i).cells.length
   rw[List.take_left' rfl] at h1
   rw[List.drop_left' rfl] at h2
   have e:xs=xs.take (f i).cells.length++xs.drop (f i).cells.length:=(List.take_append_drop _ _).symm
   rw[e]
   exact(h i (hl i List.mem_cons_self) _ h1).append (ih (fun j hj=>hl j (List.mem_cons_of_mem _ hj)) h2)
 intro xs hx
 exact key (List.range n) (fun i hi=>List.mem_range.1 hi) hx
theorem AL {ρ ρ':aA} (hi:∀c o x,ρ.aV c o=some x→ρ'.aV c o=some x) {es us:List V} {esz:Nat} {ex zq:Bool} {x:Value} (hx:au ρ (.bX es esz ex) x) (h:∀xs,ay ρ (ax es) xs→ay ρ' (ax us) xs) (hu:∀v∈us,v.cells.length=esz) (hn:us.length=es.length) (he:zq=true→ex=true):au ρ' (.bX us esz zq) x:=by
 cases hx with
 | bX hu0 hx hm hc hex=>
  rename_i c off cap xs
  have key:=au.bX (ρ:=ρ') (c:=c) (off:=off) (cap:=cap) (ex:=zq) hu (h _ hx) (fun k x h=>hi _ _ _ (hm k x h)) (by rw[hn];exact hc) (fun h=>(hex (he h)).trans hn.symm)
  rw[hn] at key;exact key
 | dP=>
  have:us=[]:=List.eq_nil_of_length_eq_zero hn
  subst this
  exact .dP
 | dt hex=>
  have:us=[]:=List.eq_nil_of_length_eq_zero hn
  subst this
  exact .dt fun h=>hex (he h)
theorem N8 {ρ:aA} {w:World} {l:Loc} {n:Nat} {f:Nat→V} {esz:Nat} {p:Bool} (h:fN ρ w l (.row n f esz p)):∃xs:List Value,ay ρ (ax (cn n f)) xs∧∀(k:Nat) x,xs[k]? =some x→w.cell? ⟨l.c,l.o+k,none⟩=some x:=by
 cases h with
 | row hs hn hu hv hf hp=>
  refine sZ fun k v hk=>?_
  have cZ:=gI hu
  have bE:k<n*esz:=by
   have:=(List.getElem?_eq_some_iff.1 hk).1
   rw[cV cZ,bg] at this;exact this
  have h0:0<esz:=by
   rcases Nat.eq_zero_or_pos esz with h | h
   ·subst h;simp at bE
   ·exact h
  have hi:k/esz<n:=(Nat.div_lt_iff_lt_mul h0).2 bE
  have eV:k%esz<esz:=Nat.mod_lt _ h0
  have e:k/esz*esz+k%esz=k:=by rw[Nat.mul_comm];exact Nat.div_add_mod k esz
  have hg:=il cZ (dB (f:=f) hi) eV
  rw[e,hk] at hg
  obtain⟨x,hx,hr⟩:=hv _ hi _ v hg.symm
  rw[e] at hx
  exact⟨x,hx,hr⟩
end
theorem R.HN [Env] {ρ:aA} {σ:St} {w:World} (h:R ρ σ w) {b off k:Nat} {vs:List V} (hv:σ.cells b off k=some vs) {l:Loc} (hl:ρ b=some l):
  ∃xs:List Value,ay ρ vs xs∧xs.length=k∧∀i x,xs[i]? =some x→w.cell? ⟨l.c,l.o+off+i,none⟩=some x:=by
 unfold St.cells at hv
 split at hv
 ·rename_i n z t p ro hb
  obtain⟨hlen,cH⟩:=gR _ _ hv
  have hc:=(h.cells hb hl).2.2.1
  have key:∀(vs:List V) (o:Nat),(∀i v,vs[i]? =some v→∃x,w.cell? ⟨l.c,o+i,none⟩=some x∧au ρ v x)→
    ∃xs:List Value,ay ρ vs xs∧∀i x,xs[i]? =some x→w.cell? ⟨l.c,o+i,none⟩=some x:=by
   intro vs
   induction vs with
   | nil=>intro o _;exact⟨[],.nil,fun i x hx=>by simp at hx⟩
   | cons v vs ih=>
    intro o hh
    obtain⟨x,hx,hr⟩:=hh 0 v rfl
    obtain⟨xs,mF,cH⟩:=ih (o+1) (fun i v hv=>by
     obtain⟨x,hx,hr⟩:=hh (i+1) v (by simpa using hv)
     exact⟨x,by rwa [show o+(i+1)=o+1+i by omega] at hx,hr⟩)
    refine⟨x::xs,.cons hr mF,fun i y hy=>?_⟩
    cases i with
    | zero=>simp at hy;subst hy;exact hx
    | succ i=>have:=cH i y (by simpa using hy);rwa [show o+1+i=o+(i+1) by omega] at this
  obtain⟨xs,mF,fu⟩:=key vs (l.o+off) (fun i v hi=>by
   obtain⟨x,hx,hr⟩:=hc _ _ (cH i v hi)
   exact⟨x,by rwa [show l.o+(off+i)=l.o+off+i by omega] at hx,hr⟩)
  exact⟨xs,mF,by rw[←mF.length,hlen],fu⟩
 ·cases hv
section
variable [Env] {ρ ρ':aA} {σ τ:St} {w:World}
mutual
theorem nv (hr:R ρ τ w) (hi:∀c o x,ρ.aV c o=some x→ρ'.aV c o=some x) (hk:∀b k l,τ.heap.get b=some k→ρ b=some l→∀o x,w.cell? ⟨l.c,o,none⟩=some x→ρ'.aV l.c o=some x):
  ∀ {v u:V} {x:Value},ey τ v u→au ρ v x→au ρ' u x
 | _,_,_,.int k n,.int _ _=>.int k n
 | _,_,_,.bool b,.bool _=>.bool b
 | _,_,_,.str s,.str _=>.str s
 | _,_,_,.dO k b,.dO _ _=>.dO k b
 | _,_,_,.any i,.any _=>.any i
 | _,_,_,.dA,.dA=>.dA
 | _,_,_,.dc,.dc=>.dc
 | _,_,_,.cR,.cR=>.cR
 | _,_,_,.bh,.bh=>.bh
 | _,_,_,.ak,.ak=>.ak
 | _,_,_,.empty _ _,.ak=>.dP
 | _,_,_,.bX h hu hn he,.bX (c:=c) (off:=off) (cap:=cap) hu0 hx hm hc hex=>by
  have key:=au.bX (ρ:=ρ') (c:=c) (off:=off) (cap:=cap) (ex:=_) hu (fC hr hi hk h hx) (fun k x h=>hi _ _ _ (hm k x h)) (by rw[hn];exact hc) (fun h=>(hex (he h)).trans hn.symm)
  rw[hn] at key;exact key
 | _,_,_,.bX h hu hn he,.dP=>by
  have:_=[]:=List.eq_nil_of_length_eq_zero hn
  subst this
  exact .dP
 | _,_,_,.bX h hu hn he,.dt hex=>by
  have:_=[]:=List.eq_nil_of_length_eq_zero hn
  subst this
  exact .dt fun h=>hex (he h)
 | _,_,_,.clean h,hx=>h _ _ _ hi hx
 | _,_,_,.kR h,hx=>.arr (fun h=>by cases h) (nv hr hi hk h hx)
 | _,_,_,.arr h hu he hn,.arr Cd hx=>.arr (fun h=>Cd (hn h)) (AL hi hx (fun xs=>EO fun i cW ys hy=>fC hr hi hk (h i cW) hy) (gI hu) (by rw[bg,bg]) he)
 | _,_,_,@ey.own _ _ b n esz f g p nn hb h hu,.own (l:=l) (cap:=cap) hl hc hN=>by
  obtain⟨l',cm,cE⟩:=hr.di b _ hb
  rw[hl] at cm;cases cm
  obtain⟨xs,h1,h2⟩:=N8 cE
  have key:=au.bX (ρ:=ρ') (c:=l.c) (off:=l.o) (cap:=cap) (ex:=false) (es:=cn n g) (gI hu) (EO (fun i cW ys hy=>fC hr hi hk (h i cW) hy) h1) (fun i x hx=>hk b _ l hb hl _ _ (h2 i x hx)) (by rw[bg];exact hc) (fun h=>by cases h)
  rw[bg] at key
  exact .arr (fun _=>⟨_,_,_,rfl⟩) key
 | _,_,_,.aU h,.aU hx hm=>.aU (fC hr hi hk h hx) fun k x h=>hi _ _ _ (hm k x h)
 | _,_,_,@ey.slice _ _ b off n cap esz ex cs es hc hf hu hn,.slice (l:=l) (off':=off') (cap':=cap') hl hex cW hN jc=>by
  subst hn
  by_cases hz:off'=l.o+off
  ·subst hz
   obtain⟨xs,h1,h2,h3⟩:=hr.HN hc hl
   obtain⟨k,hb⟩:∃k,τ.heap.get b=some k:=by
    unfold St.cells at hc
    split at hc
    ·rename_i hb;exact⟨_,hb⟩
    ·cases hc
   refine .bX hu (fC hr hi hk hf h1) (fun i x hx=>hk b k l hb hl _ _ (h3 i x hx)) ?_ (fun h=>by cases h)
   cases ex with
   | true=>rw[(hex rfl).1];exact jc
   | false=>exact Nat.le_trans jc (cW rfl).1
  ·have h0:es=[]:=by
    cases ex with
    | true=>exact absurd (hex rfl).2 hz
    | false=>
     rcases(cW rfl).2 with h' | h'
     ·exact absurd h' hz
     ·exact List.eq_nil_of_length_eq_zero h'.1
   subst h0
   exact .bX (xs:=[]) (fun v hv=>by cases hv) .nil (fun k x h=>by simp at h) (Nat.zero_le _) (fun h=>by cases h)
 | _,_,_,@ey.EN _ _ b off n cs ds hc h,.ptr (l:=l) hl=>by
  obtain⟨xs,h1,h2,h3⟩:=hr.HN hc hl
  obtain⟨k,hb⟩:∃k,τ.heap.get b=some k:=by
   unfold St.cells at hc
   split at hc
   ·rename_i hb;exact⟨_,hb⟩
   ·cases hc
  exact .aU (c:=l.c) (o:=l.o) (fC hr hi hk h h1) fun i x hx=>hk b k l hb hl _ _ (h3 i x hx)
 | _,_,_,.func hx hy,.func hf cS vO=>.func (by cases hf with
  | same h=>exact .same h) (fC hr hi hk hx cS) (fC hr hi hk hy vO)
 | _,_,_,.agg h,.agg hx=>.agg (fC hr hi hk h hx)
 | _,_,_,.tuple h,.tuple hx=>.tuple (fC hr hi hk h hx)
 | _,_,_,.iface h,.iface hx=>.iface (nv hr hi hk h hx)
theorem fC (hr:R ρ τ w) (hi:∀c o x,ρ.aV c o=some x→ρ'.aV c o=some x) (hk:∀b k l,τ.heap.get b=some k→ρ b=some l→∀o x,w.cell? ⟨l.c,o,none⟩=some x→ρ'.aV l.c o=some x):
  ∀ {vs us:List V} {xs:List Value},bH τ vs us→ay ρ vs xs→ay ρ' us xs
 | _,_,_,.nil,.nil=>.nil
 | _,_,_,.cons h hl,.cons hx mF=>.cons (nv hr hi hk h hx) (fC hr hi hk hl mF)
end
def void (n:Nat):St:=⟨.leaf,n⟩
omit [Env] in
theorem nw (n b:Nat):(void n).heap.get b=none:=Trie.fw b
omit [Env] in
theorem AM {n c:Nat}:¬Wr ρ (void n) c:=by
 rintro⟨b,k,l,h,_⟩
 rw[nw] at h;cases h
theorem R.void (h:R ρ σ w):R ρ (Ev.void σ.next) w:=h.sub (fun c k hc=>by rw[nw] at hc;cases hc) rfl
variable {P:Program}
theorem ag.fZ {f:FuncId} {vs:List V} {Q:V→Prop} (h:ag P f vs (fun v τ=>∃u,ey τ v u∧Q u) (Ev.void σ.next)):ag P f vs (fun v σ'=>Q v∧σ'=σ) σ:=by
 have h:=h.h
 refine⟨⟨?_,?_⟩⟩
 ·obtain⟨⟨o,τ⟩,hx⟩:=h.1
  cases o with
  | val v=>obtain⟨u,_,hu⟩:=hx;exact⟨(.val u,σ),hu,rfl⟩
  | exit e a=>exact hx.elim
 ·intro ρ w vs' hr hv
  obtain⟨g1,g2⟩:=cC.at h ρ w vs' hr.void hv
  refine⟨g1,g2.mono fun e w' hx=>?_⟩
  obtain⟨v,jf,bz,v',⟨u,hf,hq⟩,rfl,mS,aF⟩:=hx
  let bm:aA:=⟨ρ.at',fun c o=>if c<w.heap.size then ρ.aV c o else w'.cell? ⟨c,o,none⟩⟩
  have hold:∀c,c<w.heap.size→w'.heap[c]? =w.heap[c]? :=fun c hc=>aF.aQ c hc AM
  have hle:ρ.le bm:=⟨fun b l hb=>hb,fun c o x hx=>by
   show(if c<w.heap.size then ρ.aV c o else _)=some x
   rw[if_pos (gG (hr.aV c o x hx).1)];exact hx⟩
  have yg:∀c o x,bz.aV c o=some x→bm.aV c o=some x:=by
   intro c o x hx
   show(if c<w.heap.size then ρ.aV c o else _)=some x
   by_cases hc:c<w.heap.size
   ·rw[if_pos hc]
    rcases aF.hH c o x hx with h1 | h1 | h1
    ·exact h1
    ·omega
    ·exact absurd h1 AM
   ·rw[if_neg hc];exact(aF.r.aV c o x hx).1
  have fW:∀b k l,jf.heap.get b=some k→bz b=some l→∀o x,w'.cell? ⟨l.c,o,none⟩=some x→bm.aV l.c o=some x:=by
   intro b k l hb hl o x hx
   show(if l.c<w.heap.size then ρ.aV l.c o else _)=some x
   rw[if_neg fun hc=>AM (aF.wr l.c hc ⟨b,k,l,hb,rfl,hl,rfl⟩)]
   exact hx
  refine⟨u,σ,bm,v',⟨hq,rfl⟩,rfl,nv aF.r yg fW hf mS,⟨⟨fun b k hb=>?_,hr.inj,hr.fresh,fun b l hb=>Nat.lt_of_lt_of_le (hr.valid b l hb) aF.size,fun c o x hx=>?_,hr.rL hle⟩,hle,Nat.le_refl _,fun b l hb=>.inl hb,aF.size,aF.os,aF.tape,aF.output,
   fun c hc _=>hold c hc,fun c _ h=>h,fun b k hb=>.inl ⟨k,hb⟩,fun c o x hx=>?_⟩⟩
  ·obtain⟨l,hl,hk⟩:=hr.di b k hb
   exact⟨l,hl,hk.same hle (hold l.c (hr.valid b l hl))⟩
  ·replace hx:(if c<w.heap.size then ρ.aV c o else w'.cell? ⟨c,o,none⟩)=some x:=hx
   by_cases hc:c<w.heap.size
   ·rw[if_pos hc] at hx
    obtain⟨a1,a2⟩:=hr.aV c o x hx
    exact⟨by rw[cell?_of_block (hold c hc)];exact a1,a2⟩
   ·rw[if_neg hc] at hx
    refine⟨hx,?_⟩
    rintro⟨b,k,l,_,_,h3,h4⟩
    exact hc (by rw[←h4];exact hr.valid b l h3)
  ·replace hx:(if c<w.heap.size then ρ.aV c o else w'.cell? ⟨c,o,none⟩)=some x:=hx
   by_cases hc:c<w.heap.size
   ·rw[if_pos hc] at hx;exact .inl hx
   ·exact .inr (.inl (Nat.le_of_not_lt hc))
theorem ag.EP {f:FuncId} {vs:List V} {Q:V→Prop} (hex:∃v,Q v)
  (h:∀(ρ:aA) (w:World) (vs':List Value),R ρ σ w→ay ρ vs vs'→(callFunc f ⟨vs'⟩).run P w=.ok (.enter f ⟨vs'⟩) w∧Calls P f ⟨vs'⟩ w fun e w'=>∃v v',Q v∧e=.returned v'∧au ρ v v'∧RowKit.Below w.heap.size w w'):
  ag P f vs (fun v σ'=>Q v∧σ'=σ) σ:=by
 refine⟨⟨let ⟨v,hv⟩:=hex;⟨(.val v,σ),hv,rfl⟩,?_⟩⟩
 intro ρ w vs' hr hv
 obtain⟨g1,g2⟩:=h ρ w vs' hr hv
 refine⟨g1,(callsIn_wide.2 g2).mono fun e w' hx=>?_⟩
 obtain⟨v,v',hq,rfl,mS,hb⟩:=hx
 refine⟨v,σ,ρ,v',⟨hq,rfl⟩,rfl,mS,⟨⟨fun b k bA=>?_,hr.inj,hr.fresh,fun b l bA=>Nat.lt_of_lt_of_le (hr.valid b l bA) hb.size,fun c o x hx=>?_,hr.laid⟩,aA.le.refl ρ,Nat.le_refl _,fun b l hb=>.inl hb,hb.size,hb.os,hb.tape,hb.output,
  fun c hc _=>hb.block c hc,fun c _ h=>h,fun b k hb=>.inl ⟨k,hb⟩,fun c o x hx=>.inl hx⟩⟩
 ·obtain⟨l,hl,hk⟩:=hr.di b k bA
  exact⟨l,hl,hk.same (aA.le.refl ρ) (hb.block l.c (hr.valid b l hl))⟩
 ·obtain⟨a1,a2⟩:=hr.aV c o x hx
  exact⟨by rw[cell?_of_block (hb.block c (gG a1))];exact a1,a2⟩
end
end Go.Ev
end
section
namespace Go.Ev
open Go
def aA.pull (ρ:aA) (m:Nat→Option Nat):aA:=⟨fun b=>(m b).bind ρ.at',ρ.aV⟩
theorem aA.du {ρ:aA} {m:Nat→Option Nat} {b c:Nat} (h:m b=some c):ρ.pull m b=ρ c:=by
 show(m b).bind ρ.at'=_
 rw[h];rfl
theorem aA.qL {ρ:aA} {m:Nat→Option Nat} {b:Nat} {l:Loc} (h:ρ.pull m b=some l):∃c,m b=some c∧ρ c=some l:=by
 have h':(m b).bind ρ.at'=some l:=h
 rw[Option.bind_eq_some_iff] at h'
 exact h'
section
variable [Env]
mutual
inductive eL (m:Nat→Option Nat):V→V→Prop
 | clean {v:V} (h:Clean v):eL m v v
 | ptr {b c off:Nat} (h:m b=some c):eL m (.ptr b off) (.ptr c off)
 | fH {b c i esz off:Nat} (h:m b=some c):eL m (.fH b i esz off) (.fH c i esz off)
 | slice {b c off n cap esz:Nat} {ex:Bool} (h:m b=some c):eL m (.slice b off n cap ex esz) (.slice c off n cap ex esz)
 | own {b c n esz:Nat} (h:m b=some c):eL m (.own b n esz) (.own c n esz)
 | Lk {b c n esz:Nat} (h:m b=some c) (hn:n≠0):eL m (.own b n esz) (.slice c 0 n n false esz)
 | TQ {b c n k esz:Nat} (h:m b=some c) (hn:n≤k):eL m (.own b n esz) (.slice c 0 n k true esz)
 | TR {b c n k esz:Nat} (h:m b=some c) (hn:n≠0) (hk:n≤k):eL m (.own b n esz) (.slice c 0 n k false esz)
 | TS {b c n esz:Nat} (h:m b=some c):eL m (.slice b 0 n n false esz) (.own c n esz)
 | map {b c:Nat} (h:m b=some c):eL m (.map b) (.map c)
 | agg {x y:List V} (h:eZ m x y):eL m (.agg x) (.agg y)
 | tuple {x y:List V} (h:eZ m x y):eL m (.tuple x) (.tuple y)
 | iface {t:TypeId} {x y:V} (h:eL m x y):eL m (.iface t x) (.iface t y)
inductive eZ (m:Nat→Option Nat):List V→List V→Prop
 | nil:eZ m [] []
 | cons {v u:V} {x y:List V} (h:eL m v u) (hl:eZ m x y):eZ m (v::x) (u::y)
end
mutual
theorem eL.rel {ρ:aA} {m:Nat→Option Nat}:∀ {v u:V} {x:Value},eL m v u→au ρ u x→au (ρ.pull m) v x
 | _,_,_,.clean h,hx=>h ρ _ _ (fun _ _ _ h=>h) hx
 | _,_,_,.ptr h,.ptr hl=>.ptr ((aA.du h).trans hl)
 | _,_,_,.fH h,.fH hl=>.fH ((aA.du h).trans hl)
 | _,_,_,.slice h,.slice hl a b c d=>.slice ((aA.du h).trans hl) a b c d
 | _,_,_,.own h,.own hl a b=>.own ((aA.du h).trans hl) a b
 | _,_,_,.Lk h hn,hx=>by
  cases hx with
  | slice hl hex cW hN oN=>
   obtain⟨h1,h2⟩:=cW rfl
   rcases h2 with h2 | h2
   ·subst h2;exact .own ((aA.du h).trans hl) h1 (by simpa using hN)
   ·exact absurd h2.1 hn
 | _,_,_,.TQ h hn,hx=>by
  cases hx with
  | slice hl hex cW hN oN=>
   obtain⟨rfl,rfl⟩:=hex rfl
   exact .own ((aA.du h).trans hl) hn (by simpa using hN)
 | _,_,_,.TR h hn hk,hx=>by
  cases hx with
  | slice hl hex cW hN oN=>
   obtain⟨h1,h2⟩:=cW rfl
   rcases h2 with h2 | h2
   ·subst h2;exact .own ((aA.du h).trans hl) (Nat.le_trans hk h1) (by simpa using hN)
   ·exact absurd h2.1 hn
 | _,_,_,.TS h,.own hl hc hN=>.slice ((aA.du h).trans hl) (fun h=>by cases h) (fun _=>⟨hc,.inl (Nat.add_zero _).symm⟩) hN (Nat.le_refl _)
 | _,_,_,.map h,.map hl=>.map ((aA.du h).trans hl)
 | _,_,_,.agg h,.agg hx=>.agg (eZ.rel h hx)
 | _,_,_,.tuple h,.tuple hx=>.tuple (eZ.rel h hx)
 | _,_,_,.iface h,.iface hx=>.iface (eL.rel h hx)
theorem eZ.rel {ρ:aA} {m:Nat→Option Nat}:∀ {vs us:List V} {xs:List Value},eZ m vs us→ay ρ us xs→ay (ρ.pull m) vs xs
 | _,_,_,.nil,.nil=>.nil
 | _,_,_,.cons h hl,.cons hx mF=>.cons (eL.rel h hx) (eZ.rel hl mF)
end
theorem eZ.length {m:Nat→Option Nat}:∀ {vs us:List V},eZ m vs us→vs.length=us.length
 | _,_,.nil=>rfl
 | _,_,.cons _ hl=>congrArg (·+1) hl.length
theorem eZ.get {m:Nat→Option Nat}:∀ {vs us:List V},eZ m vs us→∀ {k:Nat} {v:V},vs[k]? =some v→∃u,us[k]? =some u∧eL m v u
 | _,_,.nil,k,v,h=>by simp at h
 | _,_,.cons h hl,0,v,hk=>by simp at hk;subst hk;exact⟨_,rfl,h⟩
 | _,_,.cons h hl,k+1,v,hk=>hl.get (k:=k) (by simpa using hk)
theorem eZ.clean {m:Nat→Option Nat}:∀ {cs:List V},(∀v∈cs,Clean v)→eZ m cs cs
 | [],_=>.nil
 | v::_,h=>.cons (.clean (h v List.mem_cons_self)) (eZ.clean fun u hu=>h u (List.mem_cons_of_mem _ hu))
inductive fD (m:Nat→Option Nat):bU→bU→Prop
 | cells {n:Nat} {z z':List V} {t t':Trie V} {p p' ro:Bool} (hp:p=true→p'=true) (h:∀i v,cellOf n z t i=some v→∃u,cellOf n z' t' i=some u∧eL m v u):fD m (.cells n z t p ro) (.cells n z' t' p' ro)
 | row {n:Nat} {f g:Nat→V} {esz:Nat} {p p':Bool} (hp:p=true→p'=true) (h:∀i,i<n→eZ m (f i).cells (g i).cells):fD m (.row n f esz p) (.row n g esz p')
 | wJ {n:Nat} {f:Nat→V} {esz:Nat} {z:List V} {t:Trie V} {p p':Bool} (hp:p=true→p'=true) (hu:∀i,i<n→(f i).cells.length=esz)
   (h:∀i,i<n→∀k v,(f i).cells[k]? =some v→∃u,cellOf (n*esz) z t (i*esz+k)=some u∧eL m v u):fD m (.row n f esz p) (.cells (n*esz) z t p' false)
 | HO {n N:Nat} {f:Nat→V} {esz:Nat} {z:List V} {t:Trie V} {p p':Bool} (hN:n*esz≤N) (hp:p=true→p'=true) (hu:∀i,i<n→(f i).cells.length=esz)
   (h:∀i,i<n→∀k v,(f i).cells[k]? =some v→∃u,cellOf N z t (i*esz+k)=some u∧eL m v u):fD m (.row n f esz p) (.cells N z t p' false)
 | ofRow {n:Nat} {f:Nat→V} {esz:Nat} {z:List V} {t:Trie V} {p:Bool}
   (h:∀i v,cellOf (n*esz) z t i=some v→∃j k u,j<n∧i=j*esz+k∧(f j).cells[k]? =some u∧eL m v u):fD m (.cells (n*esz) z t false false) (.row n f esz p)
 | deferred:fD m .deferred .deferred
theorem fD.ok {m:Nat→Option Nat} {ρ:aA} {w:World} {l:Loc} {k k':bU} (h:fD m k k') (hk:fN ρ w l k'):fN (ρ.pull m) w l k:=by
 cases h with
 | cells yV h=>
  cases hk with
  | cells hs hn hv hf hp=>
   refine .cells hs hn (fun i v hi=>?_) hf fun h=>hp (yV h)
   obtain⟨u,hu,hr⟩:=h i v hi
   obtain⟨x,hx,sn⟩:=hv i u hu
   exact⟨x,hx,hr.rel sn⟩
 | row yV h=>
  cases hk with
  | row hs hn hu hv hf hp=>
   refine .row hs hn (fun i hi=>by rw[(h i hi).length];exact hu i hi) (fun i hi k v hk=>?_) hf fun h=>hp (yV h)
   obtain⟨u,hu,hr⟩:=(h i hi).get hk
   obtain⟨x,hx,sn⟩:=hv i hi k u hu
   exact⟨x,hx,hr.rel sn⟩
 | HO hN yV hu h=>
  cases hk with
  | cells hs hn hv hf hp=>
   refine .row hs (by omega) hu (fun i hi k v hk=>?_) (hf rfl) fun h=>hp (yV h)
   obtain⟨u,hu,hr⟩:=h i hi k v hk
   obtain⟨x,hx,sn⟩:=hv _ u hu
   exact⟨x,hx,hr.rel sn⟩
 | ofRow h=>
  cases hk with
  | row hs hn hu hv hf hp=>
   refine .cells hs hn (fun i v hi=>?_) (fun _=>hf) fun h=>by cases h
   obtain⟨j,k,u,hj,rfl,hk,hr⟩:=h i v hi
   obtain⟨x,hx,sn⟩:=hv j hj k u hk
   exact⟨x,hx,hr.rel sn⟩
 | deferred=>
  cases hk with
  | deferred h=>exact .deferred h
 | wJ yV hu h=>
  cases hk with
  | cells hs hn hv hf hp=>
   refine .row hs hn hu (fun i hi k v hk=>?_) (hf rfl) fun h=>hp (yV h)
   obtain⟨u,hu,hr⟩:=h i hi k v hk
   obtain⟨x,hx,sn⟩:=hv _ u hu
   exact⟨x,hx,hr.rel sn⟩
structure pY (n₀:Nat) (m:Nat→Option Nat) (a:Act) (σ:St) (b:Act) (τ:St):Prop where
 size:a.size=b.size
 da:a.defers=[]
 db:b.defers=[]
 zr:∀i v,a.tmps.get i=some v→∃u,b.tmps.get i=some u∧eL m v u
 heap:∀i k,σ.heap.get i=some k→∃c k',m i=some c∧τ.heap.get c=some k'∧fD m k k'
 inj:∀i j c,m i=some c→m j=some c→i=j
 range:∀i,σ.next≤i→m i=none
 base:∀i,i<n₀→m i=some i
 le:n₀≤σ.next
section
variable {n₀:Nat} {m:Nat→Option Nat} {a b:Act} {σ τ:St} {ρ:aA} {w:World}
theorem pY.wr (h:pY n₀ m a σ b τ) {c:Nat} (hw:Wr (ρ.pull m) σ c):Wr ρ τ c:=by
 obtain⟨i,k,l,h1,_,h3,h4⟩:=hw
 obtain⟨j,k',e1,e2,_⟩:=h.heap i k h1
 exact⟨j,k',l,e2,rfl,(aA.du e1).symm.trans h3,h4⟩
theorem pY.r (h:pY n₀ m a σ b τ) (hr:R ρ τ w):R (ρ.pull m) σ w:=by
 refine⟨fun i k hk=>?_,fun i j k k' l l' h1 h2 g1 g2 e=>?_,fun i hi=>?_,fun i l hl=>?_,fun c o x hx=>⟨(hr.aV c o x hx).1,fun hw=>(hr.aV c o x hx).2 (h.wr hw)⟩,hr.laid⟩
 ·obtain⟨c,k',e1,e2,e3⟩:=h.heap i k hk
  obtain⟨l,hl,cE⟩:=hr.di c k' e2
  exact⟨l,(aA.du e1).trans hl,e3.ok cE⟩
 ·obtain⟨c,q,e1,e2,_⟩:=h.heap i k h1
  obtain⟨d,q',N9,Yf,_⟩:=h.heap j k' h2
  have:=hr.inj c d q q' l l' e2 Yf ((aA.du e1).symm.trans g1) ((aA.du N9).symm.trans g2) e
  subst this
  exact h.inj i j c e1 N9
 ·show(m i).bind ρ.at'=none
  rw[h.range i hi];rfl
 ·obtain⟨c,_,hc⟩:=aA.qL hl
  exact hr.valid c l hc
theorem pY.act (h:pY n₀ m a σ b τ) {a':Go.Act} (ha:bD ρ b a'):bD (ρ.pull m) a a':=by
 refine⟨fun i v hv=>?_,h.size.trans ha.size,?_⟩
 ·obtain⟨u,hu,hr⟩:=h.zr i v hv
  obtain⟨x,hx,sn⟩:=ha.tmps i u hu
  exact⟨x,hx,hr.rel sn⟩
 ·have hd:=ha.defers
  rw[h.db] at hd
  rw[h.da]
  generalize a'.defers=d at hd⊢
  cases hd
  exact .nil
structure ij (n₀:Nat) (ρ:aA) (σ:St) (w:World) (ρ':aA) (σ':St) (w':World):Prop where
 r:R ρ' σ' w'
 le:∀b l,b<n₀→ρ b=some l→ρ' b=some l
 aV:∀c o x,ρ.aV c o=some x→ρ'.aV c o=some x
 next:n₀≤σ'.next
 jn:∀b l,b<n₀→ρ' b=some l→ρ b=some l
 size:w.heap.size≤w'.heap.size
 os:w'.os=w.os
 tape:w'.tape=w.tape
 output:w'.output=w.output
 aQ:∀c,c<w.heap.size→¬Wr ρ σ c→w'.heap[c]? =w.heap[c]?
 wr:∀c,c<w.heap.size→Wr ρ' σ' c→Wr ρ σ c
 jC:∀b k,b<n₀→σ'.heap.get b=some k→∃k',σ.heap.get b=some k'
 hH:∀c o x,ρ'.aV c o=some x→ρ.aV c o=some x∨w.heap.size≤c∨Wr ρ σ c
theorem ij.of {ρ':aA} {σ':St} {w':World} (hn:n₀≤σ.next) (h:aW m9 ρ σ w ρ' σ' w'):ij n₀ ρ σ w ρ' σ' w':=
 ⟨h.r,fun b l _ hb=>h.le b l hb,h.le.aV,Nat.le_trans hn h.next,fun b l hb hl=>by
  rcases h.jn b l hl with h1 | h1 | h1
  ·exact h1
  ·omega
  ·exact h1.elim,h.size,h.os,h.tape,h.output,h.aQ,h.wr,fun b k hb hk=>by
  rcases h.jC b k hk with h1 | h1 | h1
  ·exact h1
  ·omega
  ·exact h1.elim,h.hH⟩
theorem ij.to {ρ':aA} {σ':St} {w':World} (hr:R ρ σ w) (h:ij σ.next ρ σ w ρ' σ' w'):aW m9 ρ σ w ρ' σ' w':=
 ⟨h.r,⟨fun b l hb=>h.le b l (Nat.lt_of_not_le fun hle=>by rw[hr.fresh b hle] at hb;cases hb) hb,h.aV⟩,h.next,fun b l hb=>by
  by_cases bE:b<σ.next
  ·exact .inl (h.jn b l bE hb)
  ·exact .inr (.inl (Nat.le_of_not_lt bE)),h.size,h.os,h.tape,h.output,h.aQ,h.wr,fun b k hb=>by
  by_cases bE:b<σ.next
  ·exact .inl (h.jC b k bE hb)
  ·exact .inr (.inl (Nat.le_of_not_lt bE)),h.hH⟩
theorem ij.trans {bz bm:aA} {aI bL:St} {aL fr:World} (h:ij n₀ ρ σ w bz aI aL) (k:ij n₀ bz aI aL bm bL fr):ij n₀ ρ σ w bm bL fr:=
 ⟨k.r,fun b l hb hl=>k.le b l hb (h.le b l hb hl),fun c o x hx=>k.aV c o x (h.aV c o x hx),k.next,fun b l hb hl=>h.jn b l hb (k.jn b l hb hl),Nat.le_trans h.size k.size,k.os.trans h.os,k.tape.trans h.tape,k.output.trans h.output,
  fun c hc hn=>(k.aQ c (Nat.lt_of_lt_of_le hc h.size) fun hw=>hn (h.wr c hc hw)).trans (h.aQ c hc hn),
  fun c hc hw=>h.wr c hc (k.wr c (Nat.lt_of_lt_of_le hc h.size) hw),
  fun b q hb hq=>let ⟨q',h1⟩:=k.jC b q hb hq;h.jC b q' hb h1,
  fun c o x hx=>by
   rcases k.hH c o x hx with h1 | h1 | h1
   ·exact h.hH c o x h1
   ·exact .inr (.inl (Nat.le_trans h.size h1))
   ·by_cases hc:c<w.heap.size
    ·exact .inr (.inr (h.wr c hc h1))
    ·exact .inr (.inl (Nat.le_of_not_lt hc))⟩
theorem ij.Cq {bz:aA} {aL:World} {σ₀:St} {bT:aA} {fx:World} (h:ij n₀ bT σ₀ fx bz τ aL) (hf:pY n₀ m a σ b τ):ij n₀ bT σ₀ fx (bz.pull m) σ aL:=
 ⟨hf.r h.r,fun b l hb hl=>(aA.du (hf.base b hb)).trans (h.le b l hb hl),h.aV,hf.le,fun b l hb hl=>h.jn b l hb ((aA.du (hf.base b hb)).symm.trans hl),h.size,h.os,h.tape,h.output,h.aQ,
  fun c hc hw=>h.wr c hc (hf.wr hw),fun b k hb hk=>by
   obtain⟨c,k',e1,e2,_⟩:=hf.heap b k hk
   rw[hf.base b hb] at e1
   cases e1
   exact h.jC b k' hb e2,h.hH⟩
theorem pY.stp {bz:aA} {aI:St} {aL:World} (hf:pY n₀ m a σ b τ) (h:ij n₀ (ρ.pull m) σ w bz aI aL):ij n₀ ρ τ w bz aI aL:=
 ⟨h.r,fun b l hb hl=>h.le b l hb ((aA.du (hf.base b hb)).trans hl),h.aV,h.next,fun b l hb hl=>(aA.du (hf.base b hb)).symm.trans (h.jn b l hb hl),h.size,h.os,h.tape,h.output,
  fun c hc hn=>h.aQ c hc fun hw=>hn (hf.wr hw),fun c hc hw=>hf.wr (h.wr c hc hw),fun b k hb hk=>by
   obtain⟨k',eV⟩:=h.jC b k hb hk
   obtain⟨c,Xx,e1,e2,_⟩:=hf.heap b k' eV
   rw[hf.base b hb] at e1
   cases e1
   exact⟨Xx,e2⟩,fun c o x hx=>by
   rcases h.hH c o x hx with h1 | h1 | h1
   ·exact .inl h1
   ·exact .inr (.inl h1)
   ·exact .inr (.inr (hf.wr h1))⟩
end
def dY (n₀:Nat) (Q:cp) (ρ:aA) (σ:St) (w:World):Exit→Go.Act→World→Prop:=
 fun e a' w'=>∃x a σ' ρ',Q x a σ'∧e=rX x∧bD ρ' a a'∧ij n₀ ρ σ w ρ' σ' w'
structure cT (P:Program) (n₀:Nat) (x:Code) (Q:cp) (a:Act) (σ:St):Prop where
 ex:∃e a σ,Q e a σ
 h:n₀≤σ.next→∀(ρ:aA) (w:World) (a':Go.Act),R ρ σ w→bD ρ a a'→(Code.loop x).wpIn Fence.wide 0 P (dY n₀ Q ρ σ w) a' w∧kj Fence.wide P x (dY n₀ Q ρ σ w) a' w
section
variable {P:Program} [eQ P] {fn:FuncId} {n₀:Nat} {x:Code} {Q Q':cp} {a b:Act} {σ τ:St}
theorem cT.loop (h:cr P fn none x (jg (cT P n₀ x Q) Q) a σ):cT P n₀ x Q a σ:=by
 have hs:=h.vU
 constructor
 ·obtain⟨⟨o,τ⟩,hx⟩:=hs.1
  cases o with
  | val v=>exact hx.elim
  | exit e a=>cases e with
   | normal=>exact cT.ex hx
   | exit i=>exact⟨_,_,_,hx⟩
   | goto i=>exact⟨_,_,_,hx⟩
   | ret=>exact⟨_,_,_,hx⟩
 ·intro hn ρ w a' hr ha
  refine pS (wpIn_mono (cC.at hs ρ w a' Fence.wide hr ha rfl).1 fun e aT aL ee=>?_)
  obtain⟨y,aY,bL,bm,h1,rfl,h3,h4⟩:=ee
  have Oa:=ij.of hn h4
  cases y with
  | normal=>
   have h1:cT P n₀ x Q aY bL:=h1
   refine(h1.h Oa.next bm aL aT h4.r h3).2.mono fun e a w hx=>?_
   obtain⟨z,Er,jG,nW,g1,g2,g3,g4⟩:=hx
   exact⟨z,Er,jG,nW,g1,g2,g3,Oa.trans g4⟩
  | exit i=>exact⟨.exit i,aY,bL,bm,h1,rfl,h3,Oa⟩
  | goto i=>exact⟨.goto i,aY,bL,bm,h1,rfl,h3,Oa⟩
  | ret=>exact⟨.ret,aY,bL,bm,h1,rfl,h3,Oa⟩
omit [eQ P] in
theorem cT.Cq {m:Nat→Option Nat} (hf:pY n₀ m a σ b τ) (h:cT P n₀ x Q a σ):cT P n₀ x Q b τ:=by
 refine⟨h.ex,fun _ ρ w a' hr ha=>?_⟩
 have hq:∀e a' w',dY n₀ Q (ρ.pull m) σ w e a' w'→dY n₀ Q ρ τ w e a' w':=by
  rintro e a' w' ⟨y,aT,aI,bz,h1,h2,h3,h4⟩
  exact⟨y,aT,aI,bz,h1,h2,h3,hf.stp h4⟩
 obtain⟨h1,h2⟩:=h.h hf.le _ w a' (hf.r hr) (hf.act ha)
 exact⟨wpIn_mono h1 fun _ _ _ hx=>hq _ _ _ hx,h2.mono fun _ _ _ hx=>hq _ _ _ hx⟩
omit [eQ P] in
theorem cT.post (h:cT P n₀ x Q' a σ) (hq:∀e b τ,Q' e b τ→∃m a σ,pY n₀ m a σ b τ∧Q e a σ):cT P n₀ x Q a σ:=by
 refine⟨?_,fun hn ρ w a' hr ha=>?_⟩
 ·obtain⟨e,b,τ,hx⟩:=h.ex
  obtain⟨_,a,σ,_,h2⟩:=hq e b τ hx
  exact⟨e,a,σ,h2⟩
 ·have key:∀e a' w',dY n₀ Q' ρ σ w e a' w'→dY n₀ Q ρ σ w e a' w':=by
   rintro e a' w' ⟨y,b,τ,bz,h1,rfl,h3,h4⟩
   obtain⟨m,aY,bL,hf,h5⟩:=hq y b τ h1
   exact⟨y,aY,bL,bz.pull m,h5,rfl,hf.act h3,h4.Cq hf⟩
  obtain⟨h1,h2⟩:=h.h hn ρ w a' hr ha
  exact⟨wpIn_mono h1 fun _ _ _ hx=>key _ _ _ hx,h2.mono fun _ _ _ hx=>key _ _ _ hx⟩
omit [eQ P] in
theorem cT.mono (h:cT P n₀ x Q' a σ) (hq:∀e b τ,Q' e b τ→Q e b τ):cT P n₀ x Q a σ:=by
 refine⟨let ⟨e,b,τ,hx⟩:=h.ex;⟨e,b,τ,hq _ _ _ hx⟩,fun hn ρ w a' hr ha=>?_⟩
 have key:∀e a' w',dY n₀ Q' ρ σ w e a' w'→dY n₀ Q ρ σ w e a' w':=by
  rintro e a' w' ⟨y,b,τ,bz,h1,h2,h3,h4⟩
  exact⟨y,b,τ,bz,hq _ _ _ h1,h2,h3,h4⟩
 obtain⟨h1,h2⟩:=h.h hn ρ w a' hr ha
 exact⟨wpIn_mono h1 fun _ _ _ hx=>key _ _ _ hx,h2.mono fun _ _ _ hx=>key _ _ _ hx⟩
end
end
end Go.Ev
end
